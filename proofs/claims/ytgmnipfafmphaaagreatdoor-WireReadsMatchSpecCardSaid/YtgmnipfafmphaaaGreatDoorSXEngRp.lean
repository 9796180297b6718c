/-
  My text.
-/
import Derived.Test.YtgmnipfafmphaaaGreatDoorSXEngRo
namespace Go.Proofs.YtgmnipfafmphaaaGreatDoor
set_option linter.unusedSimpArgs false
set_option linter.unusedVariables false
open Go.RowKit
variable {A:Type} {J:List DV} {N:Nat} {P:Program} {a1 a2:List DV} {args:List SX} {as:List DV} {ch:Ch} {d:DV} {e:Nat} {fn:Func} {g1 g2 gs:List SV} {h h1:Nat->Ch} {id:Nat} {m:bH} {mk:Nat->SV} {n:Nat} {outs:List SV} {post pre:List DV} {qs:List RV} {res:SV} {rows:List (List SV)} {u:Nat->SV} {x:SC} {xs:List SV}
def NB (N:Nat) (l:List SV):Nat->SV:=fun j=>if j<N then(match l[j]? with|some x=>x|none=> .d .any) else match l[j - N]? with|some x=>x|none=> .d .any
theorem Do {x:SV} (j:Nat):(pre.map SV.d++x::post.map SV.d)[j]?=if j=pre.length then some x else if j<pre.length then(pre[j]?).map SV.d else(post[j - pre.length - 1]?).map SV.d:=by
 by_cases h:j=pre.length
 ·subst h
  rw[Wy rfl,VP oS]
  simp
 ·rw[WU h]
  by_cases h2:j<pre.length
  ·rw[Wy h2,V7 (by simpa using h2),V5]
  ·rw[WU h2,VP oT]
   obtain⟨i,hi⟩:∃ i,j - (pre.map SV.d).length=i+1:=⟨j - pre.length - 1,by simp;omega⟩
   rw[hi,Wl,V5]
   have:j - pre.length - 1=i:=by simp at hi;omega
   rw[this]
theorem H8 {f k:Nat} (C:P.funcs[f]?=some fn) (o:fits P f fn x qs k=true) (hN:fn.ntmps=N) (hk:pre.length+post.length+1=k) (ho:cP m d=some (ch,mk)) (t:outs.length=k) (h:AW P x (BO N k qs res outs) ⟨NB N (pre.map .d++mk pre.length::post.map .d),ap (fun _=> .dead) pre.length ch⟩):bw P f (pre.map .d++ .own m d::post.map .d) res outs:=by
 subst hN hk
 have I:(pre.map SV.d++SV.own m d::post.map SV.d).length=pre.length+post.length+1:=by simp;omega
 refine yv (x:=x) (qs:=qs) C (by rw[I];exact o) ?_ (by rw[I];exact t) ?_
 ·rw[VN]
  intro y hy
  rcases VM.1 hy with hy|hy
  ·obtain⟨d,_,rfl⟩:=VT.1 hy;rfl
  ·rcases VK.1 hy with rfl|hy
   ·simp only[H_,ho,Option.isSome_some]
   ·obtain⟨d,_,rfl⟩:=VT.1 hy;rfl
 ·rw[I]
  have hv:∀ i,xA i (.own m d)=mk i:=fun i=>by simp only[xA,ho]
  have hx:∀ j,(match(pre.map SV.d++SV.own m d::post.map SV.d)[j]? with|some x=>xA j x|none=>SV.d .any)=(match(pre.map SV.d++mk pre.length::post.map SV.d)[j]? with|some x=>x|none=>SV.d .any):=fun j=>by
   rw[Do,Do]
   by_cases h1:j=pre.length
   ·subst h1;simp only[VW,hv]
   ·rw[WU h1,WU h1]
    by_cases h2:j<pre.length
    ·rw[Wy h2];cases pre[j]?<;>rfl
    ·rw[WU h2];cases post[j - pre.length - 1]?<;>rfl
  have e1:Ds fn.ntmps (pre.map SV.d++SV.own m d::post.map SV.d)=NB fn.ntmps (pre.map .d++mk pre.length::post.map .d):=by
   funext j
   unfold Ds NB
   by_cases h9:j<fn.ntmps
   ·simp only[h9,VW];exact hx j
   ·simp only[h9,VQ];exact hx (j - fn.ntmps)
  have e2:EK (pre.map SV.d++SV.own m d::post.map SV.d)=ap (fun _=> .dead) pre.length ch:=by
   funext j
   unfold EK ap
   rw[Do]
   by_cases h1:j=pre.length
   ·rw[Wy h1,Wy h1]
    simp only[EJ,ho]
   ·rw[WU h1,WU h1]
    by_cases h2:j<pre.length
    ·rw[Wy h2];cases pre[j]?<;>rfl
    ·rw[WU h2];cases post[j - pre.length - 1]?<;>rfl
  rw[e1,e2];exact h
def Kz (N:Nat) (c:SV) (as:List DV):Nat->SV:=fun j=>if j=0 then c else if j<N then(match as[j - 1]? with|some d=> .d d|none=> .d .any) else if j=N then c else match as[j - N - 1]? with|some d=> .d d|none=> .d .any
theorem RY {c:SV} (hN:0<N):NB N (c::as.map .d)=Kz N c as:=by
 funext j
 unfold NB Kz
 by_cases h0:j=0
 ·subst h0;simp[hN]
 ·obtain⟨i,rfl⟩:∃ i,j=i+1:=⟨j - 1,by omega⟩
  by_cases h9:i+1<N
  ·simp only[h9,VW,Wl,V5,Xj]
   rw[WU oM]
   cases as[i]?<;>rfl
  ·simp only[h9,VQ]
   rw[WU oM]
   by_cases he:i+1=N
   ·simp only[he,VW,Wn,VZ]
   ·obtain⟨q,hq⟩:∃ q,i+1 - N=q+1:=⟨i+1 - N - 1,by omega⟩
    simp only[he,VQ,hq,Wl,V5,Xj]
    cases as[q]?<;>rfl
theorem mn {f k:Nat} (C:P.funcs[f]?=some fn) (o:fits P f fn x qs k=true) (hN:fn.ntmps=N) (hk:post.length+1=k) (ho:cP m d=some (ch,mk)) (t:outs.length=k) (X:0<N) (h:AW P x (BO N k qs res outs) ⟨Kz N (mk 0) post,ap (fun _=> .dead) 0 ch⟩):bw P f (.own m d::post.map .d) res outs:=by
 rw[<-RY X] at h
 exact H8 (pre:=[]) C o hN (by simpa using hk) ho t h
section
variable {α K V:Type} {H:α->List DV} {n e:Nat} {G:K->DV} {f:V->DV} {kk:KK}
theorem pY (F:∀ a,(H a).length=n) (l:List α):cP (.sl e (List.replicate n .sh)) (.slice (l.map H))=some (.vec e n (aY H l),.vec):=by
 simp only[cP,VE,uG F]
theorem Dp (F:∀ a,(H a).length=n) (l:List α):gm (.sl e (List.replicate n .sh)) (.slice (l.map H)):=by
 intro r D
 obtain⟨a,_,rfl⟩:=VT.1 D
 rw[VE];exact F a
def LI (G:K->DV) (f:V->DV) (W:List (K×V)):DV:= .map (W.map fun p=>G p.1) (W.map fun p=>f p.2)
theorem KA (W:List (K×V)):cP (.mp kk .sh) (LI G f W)=some (.map kk (nz G (fun v=> .d (f v)) W),.mp):=by
 have:∀ W:List (K×V),(W.map fun p=>G p.1).zip ((W.map fun p=>f p.2).map (vY .sh))=nz G (fun v=> .d (f v)) W:=fun W=>by
  induction W with
  |nil=>rfl
  |cons p W ih=>
   simp only[VF,List.zip_cons_cons,ih]
   rfl
 unfold LI
 simp only[cP,this]
theorem NC (W:List (K×V)):gm (.mp kk .sh) (LI G f W):=by
 unfold LI gm
 simp
end
section
variable {P:Program} {s:Nat->SV} {h:Nat->Ch} {M:St->Prop} {sos:List SO} {α K V Y R:Type} {H:α->List DV} {G:K->DV} {w:V->DV} {kk:KK} {σ:St} {g0:SV} {d0:DV}
theorem ND {d':DV} {ch':Ch} {mk':Nat->SV} (h1:SV.toDVs g1=some a1) (h2:SV.toDVs g2=some a2) (ho:cP m d=some (ch,mk)) (hs:gm m d) (ho':cP m d'=some (ch',mk')) (hh:h id=ch):
  HandL h (g1++mk id::g2) (a1.map .d++ .own m d::a2.map .d) (a1.map .d++ .own m d'::a2.map .d) [(id,ch')]:=by
 induction g1 generalizing a1 with
 |nil=>
  simp only[SV.toDVs,Vi] at h1;subst h1
  exact .ptr ho hs ho' hh oS (tZ h2)
 |cons g g1 ih=>
  unfold SV.toDVs at h1
  split at h1
  ·rename_i d0 i E h4
   simp only[Vi] at h1;subst h1
   exact .data E (ih h4)
  ·cases h1
theorem UF {r:R} {a:Option Y} {k:Y->Option R} {dst:Option Nat} {f:Nat} {D:Y->DV} {C:Y->Ch} {E:Y->SV} {ins outs:Y->List SV} {s':Y->Nat->SV} (Z:a.bind k=some r) (hx:args.map (ev s)=g1++mk id::g2) (h1:SV.toDVs g1=some a1) (h2:SV.toDVs g2=some a2) (hh:h id=ch) (ho:cP m d=some (ch,mk)) (i:gm m d) (ho':∀ y,cP m (D y)=some (C y,mk)) (hs:∀ y,a=some y->bw P f (ins y) (E y) (outs y)) (hi:∀ y,ins y=a1.map .d++ .own m d::a2.map .d) (b:∀ y,outs y=a1.map .d++ .own m (D y)::a2.map .d) (c:∀ y,(E y).closed=true/\(E y).nOwn=0) (hd:∀ y,s' y=match dst with|some t=>ap s t (E y)|none=>s) (hk:∀ y,k y=some r->aI P M sos ⟨s' y,ap h id (C y)⟩):aI P M (.p dst (.f f) args::sos) ⟨s,h⟩:=by
 cases hy:a with
 |none=>rw[hy] at Z;cases Z
 |some y=>
  rw[hy] at Z
  obtain⟨T,c2⟩:=c y
  refine Um (z:=⟨s,h⟩) (L:=[(id,C y)]) (bt.refl _) (hs y hy) T ?_ (s':=s' y) (h':=ap h id (C y)) ?_ (hk y Z)
  ·have e1:args.map (ev (St.s ⟨s,h⟩))=g1++mk id::g2:=hx
   rw[e1,hi y,b y]
   exact ND h1 h2 ho i (ho' y) hh
  ·rw[hd y]
   cases dst<;>simp only[takes,c2,VW,l0]
theorem yu {r:R} {a:Option Y} {k:Y->Option R} {dst f:Nat} {b:List DV} {l:List α} {l':Y->List α} {E:Y->SV} (Z:a.bind k=some r) (hx:args.map (ev s)= .vec id::gs) (u4:SV.toDVs gs=some b) (hh:h id= .vec e n (aY H l)) (F:∀ a,(H a).length=n) (hs:∀ y,a=some y->bw P f (.own (.sl e (List.replicate n .sh)) (.slice (l.map H))::as.map .d) (E y) (.own (.sl e (List.replicate n .sh)) (.slice ((l' y).map H))::as.map .d)) (he:b=as) (c:∀ y,(E y).closed=true/\(E y).nOwn=0) (hk:∀ y,k y=some r->aI P M sos ⟨ap s dst (E y),ap h id (.vec e n (aY H (l' y)))⟩):aI P M (.p (some dst) (.f f) args::sos) ⟨s,h⟩:=by
 subst he
 exact UF (mk:= .vec) (g1:=[]) (a1:=[]) (m:= .sl e (List.replicate n .sh)) (C:=fun y=> .vec e n (aY H (l' y))) (D:=fun y=> .slice ((l' y).map H)) (ins:=fun _=>_) (outs:=fun y=>_) (s':=fun y=>ap s dst (E y)) Z hx (rfl) u4 hh (pY F l) (Dp F l) (fun y=>pY F (l' y)) hs (fun _=>rfl) (fun _=>rfl) c (fun _=>rfl) hk
theorem NE (h1:SV.toDVs g1=some a1) (h2:SV.toDVs g2=some a2) (E:SV.toDVs xs=some J) (ho:cP m d=some (ch,mk)) (hs:gm m d) (hh:h id=ch):
  p7 h ((g1++mk id::g2)++xs) ((a1.map .d++ .own m d::a2.map .d)++J.map .d) [id]:=by
 induction g1 generalizing a1 with
 |nil=>
  simp only[SV.toDVs,Vi] at h1;subst h1
  exact .own ho hs hh oS (G4 (zt E) h2)
 |cons g g1 ih=>
  unfold SV.toDVs at h1
  split at h1
  ·rename_i d0 i h4 h5
   simp only[Vi] at h1;subst h1
   exact .data h4 (ih h5)
  ·cases h1
theorem Dq {N:Nat} {u:Nat->SV} {h1 h2:Nat->Ch}:∀ n,jD N ⟨u,h1⟩ n=jD N ⟨u,h2⟩ n
 |0=>rfl
 |n+1=>by
  show jD N ⟨u,h1⟩ n++[u (N+n)]=jD N ⟨u,h2⟩ n++[u (N+n)]
  rw[Dq (h1:=h1) (h2:=h2) n]
theorem Ao:∀ {xs:List SV} {J:List DV},SV.toDVs xs=some J->J.length=xs.length
 |[],J,hd=>by simp only[SV.toDVs,Vi] at hd;subst hd;rfl
 |x::xs,J,hd=>by
  unfold SV.toDVs at hd
  split at hd
  ·rename_i d i h1 h2
   simp only[Vi] at hd;subst hd
   simp[Ao h2]
  ·cases hd
theorem NF {r:A×List α} {a:A} {l:List α} {k:Nat} {E:A×List α->SV} (Z:some (a,l)=some r) (h6:bt σ ⟨u,h1⟩) (hh:h1 0= .vec e n rows) (D:bv rows (aY H l)) (F:∀ a,(H a).length=n) (L:jD N ⟨u,h1⟩ k= .vec 0::gs) (u4:SV.toDVs gs=some as) (hq:IQ ⟨u,ap h1 0 (.vec e n (aY H l))⟩ qs=some xs) (T:SV.toDVs xs=some J) (he:E (a,l)=mY (J.map .d)):BO N k qs (E r) (.own (.sl e (List.replicate n .sh)) (.slice (r.2.map H))::as.map .d) .ret σ:=by
 cases Z
 have h2:bt ⟨u,h1⟩ ⟨u,ap h1 0 (.vec e n (aY H l))⟩:=mJ (fun _=> .inl rfl) fun j=>by
  by_cases hj:j=0
  ·subst hj;simp only[ap,VW,hh];exact fO D
  ·simp only[ap,hj,VQ];exact bT rfl
 refine⟨_,bt.trans h6 h2,xs,J.map .d,[0],hq,he,by rw[Wj,Ao T], ?_⟩
 rw[Dq (h2:=h1),L]
 exact NE (g1:=[]) (a1:=[]) (mk:= .vec) (rfl) u4 T (pY F l) (Dp F l) (by simp only[ap,VW])
theorem rv {r:A×List α} {a:A} {l:List α} {k:Nat} {E:A×List α->SV} (Z:some (a,l)=some r) (h6:bt σ ⟨u,h1⟩) (hh:h1 0= .vec e n rows) (D:bv rows (aY H l)) (F:∀ a,(H a).length=n) (L:jD N ⟨u,h1⟩ k= .vec 0::gs) (u4:SV.toDVs gs=some as) (hq:IQ ⟨u,ap h1 0 (.vec e n (aY H l))⟩ qs=some xs) (T:SV.toDVs xs=some J) (he:E (a,l)=mY (J.map .d)):BO N k qs (E r) (.own (.sl e (List.replicate n .sh)) (.slice (r.2.map H))::as.map .d) .normal σ:=by
 cases Z
 have h2:bt ⟨u,h1⟩ ⟨u,ap h1 0 (.vec e n (aY H l))⟩:=mJ (fun _=> .inl rfl) fun j=>by
  by_cases hj:j=0
  ·subst hj;simp only[ap,VW,hh];exact fO D
  ·simp only[ap,hj,VQ];exact bT rfl
 refine⟨_,bt.trans h6 h2,xs,J.map .d,[0],hq,he,by rw[Wj,Ao T], ?_⟩
 rw[Dq (h2:=h1),L]
 exact NE (g1:=[]) (a1:=[]) (mk:= .vec) (rfl) u4 T (pY F l) (Dp F l) (by simp only[ap,VW])
end
attribute [push_cast] Kz
