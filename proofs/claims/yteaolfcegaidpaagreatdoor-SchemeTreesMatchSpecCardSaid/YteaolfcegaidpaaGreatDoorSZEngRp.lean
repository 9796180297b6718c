/-
  My text.
-/
import Derived.Test.YteaolfcegaidpaaGreatDoorSZEngRo
namespace Go.Proofs.YteaolfcegaidpaaGreatDoor
set_option linter.unusedSimpArgs false
set_option linter.unusedVariables false
open Go.RowKit
variable {A:Type} {C:SV} {M:List DV} {N:Nat} {O:List DV} {P:Program} {a2:List DV} {args:List SX} {as b:List DV} {c:SV} {ch:Ch} {d:DV} {dst e:Nat} {fn:Func} {g1 g2 gs:List SV} {h h1:Nat->Ch} {id:Nat} {m:cO} {mk:Nat->SV} {n:Nat} {outs:List SV} {p:Nat->SV} {post pre:List DV} {qs:List RV} {rows:List (List SV)} {x:SC} {xs:List SV}
def Jd (N:Nat) (l:List SV):Nat->SV:=fun j=>if j<N then(match l[j]? with|some x=>x|none=> .d .any) else match l[j - N]? with|some x=>x|none=> .d .any
theorem DG {x:SV} (j:Nat):(pre.map SV.d++x::post.map SV.d)[j]?=if j=pre.length then some x else if j<pre.length then(pre[j]?).map SV.d else(post[j - pre.length - 1]?).map SV.d:=by
 by_cases h:j=pre.length
 ·subst h
  rw[Ub rfl,TK oS]
  simp
 ·rw[Ul h]
  by_cases h2:j<pre.length
  ·rw[Ub h2,TZ (by simpa using h2),Tk]
  ·rw[Ul h2,TK oT]
   obtain⟨i,hi⟩:∃ i,j - (pre.map SV.d).length=i+1:=⟨j - pre.length - 1,by simp;omega⟩
   rw[hi,TS,Tk]
   have:j - pre.length - 1=i:=by simp at hi;omega
   rw[this]
theorem B_ {f k:Nat} (hf:P.funcs[f]?=some fn) (o:fits P f fn x qs k=true) (S:fn.ntmps=N) (hk:pre.length+post.length+1=k) (ho:cL m d=some (ch,mk)) (O:outs.length=k) (h:AW P x (z_ N k qs C outs) ⟨Jd N (pre.map .d++mk pre.length::post.map .d),aD (fun _=> .dead) pre.length ch⟩):bB P f (pre.map .d++ .own m d::post.map .d) C outs:=by
 subst S hk
 have h8:(pre.map SV.d++SV.own m d::post.map SV.d).length=pre.length+post.length+1:=by simp;omega
 refine za (x:=x) (qs:=qs) hf (by rw[h8];exact o) ?_ (by rw[h8];exact O) ?_
 ·rw[Tp]
  intro y hy
  rcases Ta.1 hy with hy|hy
  ·obtain⟨d,_,rfl⟩:=Tu.1 hy;rfl
  ·rcases S9.1 hy with rfl|hy
   ·simp only[HY,ho,Option.isSome_some]
   ·obtain⟨d,_,rfl⟩:=Tu.1 hy;rfl
 ·rw[h8]
  have hv:∀ i,yC i (.own m d)=mk i:=fun i=>by simp only[yC,ho]
  have hx:∀ j,(match(pre.map SV.d++SV.own m d::post.map SV.d)[j]? with|some x=>yC j x|none=>SV.d .any)=(match(pre.map SV.d++mk pre.length::post.map SV.d)[j]? with|some x=>x|none=>SV.d .any):=fun j=>by
   rw[DG,DG]
   by_cases h1:j=pre.length
   ·subst h1;simp only[T6,hv]
   ·rw[Ul h1,Ul h1]
    by_cases h2:j<pre.length
    ·rw[Ub h2];cases pre[j]?<;>rfl
    ·rw[Ul h2];cases post[j - pre.length - 1]?<;>rfl
  have e1:DK fn.ntmps (pre.map SV.d++SV.own m d::post.map SV.d)=Jd fn.ntmps (pre.map .d++mk pre.length::post.map .d):=by
   funext j
   unfold DK Jd
   by_cases h9:j<fn.ntmps
   ·simp only[h9,T6];exact hx j
   ·simp only[h9,Tv];exact hx (j - fn.ntmps)
  have e2:ET (pre.map SV.d++SV.own m d::post.map SV.d)=aD (fun _=> .dead) pre.length ch:=by
   funext j
   unfold ET aD
   rw[DG]
   by_cases h1:j=pre.length
   ·rw[Ub h1,Ub h1]
    simp only[ES,ho]
   ·rw[Ul h1,Ul h1]
    by_cases h2:j<pre.length
    ·rw[Ub h2];cases pre[j]?<;>rfl
    ·rw[Ul h2];cases post[j - pre.length - 1]?<;>rfl
  rw[e1,e2];exact h
def JX (N:Nat) (c:SV) (as:List DV):Nat->SV:=fun j=>if j=0 then c else if j<N then(match as[j - 1]? with|some d=> .d d|none=> .d .any) else if j=N then c else match as[j - N - 1]? with|some d=> .d d|none=> .d .any
def JY (N:Nat) (a:DV) (c:SV) (as:List DV):Nat->SV:=fun j=>if j=0 then .d a else if j=1 then c else if j<N then(match as[j - 2]? with|some d=> .d d|none=> .d .any) else if j=N then .d a else if j=N+1 then c else match as[j - N - 2]? with|some d=> .d d|none=> .d .any
theorem Qh (S:0<N):Jd N (c::as.map .d)=JX N c as:=by
 funext j
 unfold Jd JX
 by_cases h0:j=0
 ·subst h0;simp[S]
 ·obtain⟨i,rfl⟩:∃ i,j=i+1:=⟨j - 1,by omega⟩
  by_cases h9:i+1<N
  ·simp only[h9,T6,TS,Tk,Un]
   rw[Ul oM]
   cases as[i]?<;>rfl
  ·simp only[h9,Tv]
   rw[Ul oM]
   by_cases J:i+1=N
   ·simp only[J,T6,Va,Uq]
   ·obtain⟨q,hq⟩:∃ q,i+1 - N=q+1:=⟨i+1 - N - 1,by omega⟩
    simp only[J,Tv,hq,TS,Tk,Un]
    cases as[q]?<;>rfl
theorem Qi {a:DV} (S:1<N):Jd N (.d a::c::as.map .d)=JY N a c as:=by
 funext j
 unfold Jd JY
 by_cases h0:j=0
 ·subst h0;rw[Ub oM];rfl
 by_cases h1:j=1
 ·subst h1;rw[Ub S];rfl
 rw[Ul h0,Ul h1]
 by_cases h9:j<N
 ·rw[Ub h9,Ub h9]
  obtain⟨i,rfl⟩:∃ i,j=i+2:=⟨j - 2,by omega⟩
  simp only[TS,Tk,Un]
  cases as[i]?<;>rfl
 ·rw[Ul h9,Ul h9]
  by_cases J:j=N
  ·rw[Ub J,J,Va];rfl
  rw[Ul J]
  by_cases u1:j=N+1
  ·rw[Ub u1,u1,Nat.add_sub_cancel_left];rfl
  rw[Ul u1]
  obtain⟨i,hi⟩:∃ i,j - N=i+2:=⟨j - N - 2,by omega⟩
  rw[hi]
  simp only[TS,Tk,Un]
  cases as[i]?<;>rfl
theorem jI {f k:Nat} (hf:P.funcs[f]?=some fn) (o:fits P f fn x qs k=true) (S:fn.ntmps=N) (hk:post.length+1=k) (ho:cL m d=some (ch,mk)) (O:outs.length=k) (r6:0<N) (h:AW P x (z_ N k qs C outs) ⟨JX N (mk 0) post,aD (fun _=> .dead) 0 ch⟩):bB P f (.own m d::post.map .d) C outs:=by
 rw[<-Qh r6] at h
 exact B_ (pre:=[]) hf o S (by simpa using hk) ho O h
theorem GM {f k:Nat} {a:DV} (hf:P.funcs[f]?=some fn) (o:fits P f fn x qs k=true) (S:fn.ntmps=N) (hk:post.length+2=k) (ho:cL m d=some (ch,mk)) (O:outs.length=k) (r6:1<N) (h:AW P x (z_ N k qs C outs) ⟨JY N a (mk 1) post,aD (fun _=> .dead) 1 ch⟩):bB P f (.d a:: .own m d::post.map .d) C outs:=by
 rw[<-Qi r6] at h
 exact B_ (pre:=[a]) hf o S oT ho O h
section
variable {α K V:Type} {H:α->List DV} {n e:Nat} {G:K->DV} {f:V->DV} {kk:KK}
theorem lF (I:∀ a,(H a).length=n) (l:List α):cL (.sl e (List.replicate n .sh)) (.slice (l.map H))=some (.vec e n (bG H l),.vec):=by
 simp only[cL,T9,tD I]
theorem wZ (I:∀ a,(H a).length=n) (l:List α):eQ (.sl e (List.replicate n .sh)) (.slice (l.map H)):=by
 intro r hr
 obtain⟨a,_,rfl⟩:=Tu.1 hr
 rw[T9];exact I a
def yB (G:K->DV) (f:V->DV) (W:List (K×V)):DV:= .map (W.map fun p=>G p.1) (W.map fun p=>f p.2)
theorem CM (W:List (K×V)):cL (.mp kk .sh) (yB G f W)=some (.map kk (iV G (fun v=> .d (f v)) W),.mp):=by
 have:∀ W:List (K×V),(W.map fun p=>G p.1).zip ((W.map fun p=>f p.2).map (Cm .sh))=iV G (fun v=> .d (f v)) W:=fun W=>by
  induction W with
  |nil=>rfl
  |cons p W ih=>
   simp only[S5,UO,ih]
   rfl
 unfold yB
 simp only[cL,this]
theorem HV (W:List (K×V)):eQ (.mp kk .sh) (yB G f W):=by
 unfold yB eQ
 simp
end
section
variable {P:Program} {s:Nat->SV} {h:Nat->Ch} {w:St->Prop} {sos:List SO} {α K V Y R:Type} {H:α->List DV} {G:K->DV} {u:V->DV} {kk:KK} {σ:St} {g0:SV} {d0:DV}
theorem ME {d':DV} {ch':Ch} {mk':Nat->SV} (h1:SV.toDVs g1=some M) (h2:SV.toDVs g2=some a2) (ho:cL m d=some (ch,mk)) (hs:eQ m d) (ho':cL m d'=some (ch',mk')) (hh:h id=ch):
  HandL h (g1++mk id::g2) (M.map .d++ .own m d::a2.map .d) (M.map .d++ .own m d'::a2.map .d) [(id,ch')]:=by
 induction g1 generalizing M with
 |nil=>
  simp only[SV.toDVs,SN] at h1;subst h1
  exact .ptr ho hs ho' hh oS (rU h2)
 |cons g g1 ih=>
  unfold SV.toDVs at h1
  split at h1
  ·rename_i d0 i E h4
   simp only[SN] at h1;subst h1
   exact .data E (ih h4)
  ·cases h1
theorem Ro {r:R} {a:Option Y} {k:Y->Option R} {dst:Option Nat} {f:Nat} {D:Y->DV} {C:Y->Ch} {E:Y->SV} {ins outs:Y->List SV} {F:Y->Nat->SV} (Z:a.bind k=some r) (hx:args.map (ev s)=g1++mk id::g2) (h1:SV.toDVs g1=some M) (h2:SV.toDVs g2=some a2) (hh:h id=ch) (ho:cL m d=some (ch,mk)) (l:eQ m d) (ho':∀ y,cL m (D y)=some (C y,mk)) (hs:∀ y,a=some y->bB P f (ins y) (E y) (outs y)) (hi:∀ y,ins y=M.map .d++ .own m d::a2.map .d) (b:∀ y,outs y=M.map .d++ .own m (D y)::a2.map .d) (c:∀ y,(E y).closed=true/\(E y).nOwn=0) (hd:∀ y,F y=match dst with|some t=>aD s t (E y)|none=>s) (hk:∀ y,k y=some r->a6 P w sos ⟨F y,aD h id (C y)⟩):a6 P w (.p dst (.f f) args::sos) ⟨s,h⟩:=by
 cases hy:a with
 |none=>rw[hy] at Z;cases Z
 |some y=>
  rw[hy] at Z
  obtain⟨c1,z⟩:=c y
  refine Rk (h5:=⟨s,h⟩) (L:=[(id,C y)]) (cS.refl _) (hs y hy) c1 ?_ (F:=F y) (h':=aD h id (C y)) ?_ (hk y Z)
  ·have e1:args.map (ev (St.s ⟨s,h⟩))=g1++mk id::g2:=hx
   rw[e1,hi y,b y]
   exact ME h1 h2 ho l (ho' y) hh
  ·rw[hd y]
   cases dst<;>simp only[takes,z,T6,kd]
theorem y_ {r:R} {a:Option Y} {k:Y->Option R} {f:Nat} {l:List α} {l':Y->List α} {E:Y->SV} (Z:a.bind k=some r) (hx:args.map (ev s)= .vec id::gs) (r2:SV.toDVs gs=some b) (hh:h id= .vec e n (bG H l)) (I:∀ a,(H a).length=n) (hs:∀ y,a=some y->bB P f (.own (.sl e (List.replicate n .sh)) (.slice (l.map H))::as.map .d) (E y) (.own (.sl e (List.replicate n .sh)) (.slice ((l' y).map H))::as.map .d)) (J:b=as) (c:∀ y,(E y).closed=true/\(E y).nOwn=0) (hk:∀ y,k y=some r->a6 P w sos ⟨aD s dst (E y),aD h id (.vec e n (bG H (l' y)))⟩):a6 P w (.p (some dst) (.f f) args::sos) ⟨s,h⟩:=by
 subst J
 exact Ro (mk:= .vec) (g1:=[]) (M:=[]) (m:= .sl e (List.replicate n .sh)) (C:=fun y=> .vec e n (bG H (l' y))) (D:=fun y=> .slice ((l' y).map H)) (ins:=fun _=>_) (outs:=fun y=>_) (F:=fun y=>aD s dst (E y)) Z hx (rfl) r2 hh (lF I l) (wZ I l) (fun y=>lF I (l' y)) hs (fun _=>rfl) (fun _=>rfl) c (fun _=>rfl) hk
theorem MF {r:R} {a:Option Y} {k:Y->Option R} {f:Nat} {W:List (K×V)} {o:Y->List (K×V)} {q:V->SV} {E:Y->SV} (Z:a.bind k=some r) (hx:args.map (ev s)=g0:: .mp id::gs) (h2:g0.toDV=some d0) (r2:SV.toDVs gs=some b) (hh:h id= .map kk (iV G q W)) (d:q=fun v=> .d (u v)) (hs:∀ y,a=some y->bB P f (.d d0:: .own (.mp kk .sh) (yB G u W)::as.map .d) (E y) (.d d0:: .own (.mp kk .sh) (yB G u (o y))::as.map .d)) (J:b=as) (c:∀ y,(E y).closed=true/\(E y).nOwn=0) (hk:∀ y,k y=some r->a6 P w sos ⟨aD s dst (E y),aD h id (.map kk (iV G (fun v=> .d (u v)) (o y)))⟩):a6 P w (.p (some dst) (.f f) args::sos) ⟨s,h⟩:=by
 subst J d
 exact Ro (mk:= .mp) (g1:=[g0]) (M:=[d0]) (m:= .mp kk .sh) (C:=fun y=> .map kk (iV G (fun v=> .d (u v)) (o y))) (D:=fun y=>yB G u (o y)) (ins:=fun _=>_) (outs:=fun y=>_) (F:=fun y=>aD s dst (E y)) Z hx (by simp only[SV.toDVs,h2]) r2 hh (CM W) (HV W) (fun y=>CM (o y)) hs (fun _=>rfl) (fun _=>rfl) c (fun _=>rfl) hk
theorem Je (h1:SV.toDVs g1=some M) (h2:SV.toDVs g2=some a2) (E:SV.toDVs xs=some O) (ho:cL m d=some (ch,mk)) (hs:eQ m d) (hh:h id=ch):
  pS h ((g1++mk id::g2)++xs) ((M.map .d++ .own m d::a2.map .d)++O.map .d) [id]:=by
 induction g1 generalizing M with
 |nil=>
  simp only[SV.toDVs,SN] at h1;subst h1
  exact .own ho hs hh oS (CP (Ac E) h2)
 |cons g g1 ih=>
  unfold SV.toDVs at h1
  split at h1
  ·rename_i d0 i h4 h5
   simp only[SN] at h1;subst h1
   exact .data h4 (ih h5)
  ·cases h1
theorem z8 {N:Nat} {p:Nat->SV} {h1 h2:Nat->Ch}:∀ n,gB N ⟨p,h1⟩ n=gB N ⟨p,h2⟩ n
 |0=>rfl
 |n+1=>by
  show gB N ⟨p,h1⟩ n++[p (N+n)]=gB N ⟨p,h2⟩ n++[p (N+n)]
  rw[z8 (h1:=h1) (h2:=h2) n]
theorem yq:∀ {xs:List SV} {O:List DV},SV.toDVs xs=some O->O.length=xs.length
 |[],O,hd=>by simp only[SV.toDVs,SN] at hd;subst hd;rfl
 |x::xs,O,hd=>by
  unfold SV.toDVs at hd
  split at hd
  ·rename_i d i h1 h2
   simp only[SN] at hd;subst hd
   simp[yq h2]
  ·cases hd
theorem MG {r:A×List α} {a:A} {l:List α} {k:Nat} {E:A×List α->SV} (Z:some (a,l)=some r) (h7:cS σ ⟨p,h1⟩) (hh:h1 0= .vec e n rows) (hr:iv rows (bG H l)) (I:∀ a,(H a).length=n) (hg:gB N ⟨p,h1⟩ k= .vec 0::gs) (r2:SV.toDVs gs=some as) (hq:Hg ⟨p,aD h1 0 (.vec e n (bG H l))⟩ qs=some xs) (T:SV.toDVs xs=some O) (J:E (a,l)=mj (O.map .d)):z_ N k qs (E r) (.own (.sl e (List.replicate n .sh)) (.slice (r.2.map H))::as.map .d) .ret σ:=by
 cases Z
 have h2:cS ⟨p,h1⟩ ⟨p,aD h1 0 (.vec e n (bG H l))⟩:=xd (fun _=> .inl rfl) fun j=>by
  by_cases hj:j=0
  ·subst hj;simp only[aD,T6,hh];exact jV hr
  ·simp only[aD,hj,Tv];exact be rfl
 refine⟨_,cS.trans h7 h2,xs,O.map .d,[0],hq,J,by rw[TO,yq T], ?_⟩
 rw[z8 (h2:=h1),hg]
 exact Je (g1:=[]) (M:=[]) (mk:= .vec) (rfl) r2 T (lF I l) (wZ I l) (by simp only[aD,T6])
theorem MH {r:A×List (K×V)} {a:A} {W:List (K×V)} {k:Nat} {E:A×List (K×V)->SV} {q:V->SV} (Z:some (a,W)=some r) (h7:cS σ ⟨p,h1⟩) (hh:h1 1= .map kk (iV G q W)) (d:q=fun v=> .d (u v)) (hg:gB N ⟨p,h1⟩ k=g0:: .mp 1::gs) (h2:g0.toDV=some d0) (r2:SV.toDVs gs=some as) (hq:Hg ⟨p,h1⟩ qs=some xs) (T:SV.toDVs xs=some O) (J:E (a,W)=mj (O.map .d)):z_ N k qs (E r) (.d d0:: .own (.mp kk .sh) (yB G u r.2)::as.map .d) .ret σ:=by
 cases Z
 subst d
 refine⟨_,h7,xs,O.map .d,[1],hq,J,by rw[TO,yq T], ?_⟩
 rw[hg]
 exact Je (g1:=[g0]) (M:=[d0]) (mk:= .mp) (by simp only[SV.toDVs,h2]) r2 T (CM W) (HV W) hh
theorem rT {r:A×List α} {a:A} {l:List α} {k:Nat} {E:A×List α->SV} (Z:some (a,l)=some r) (h7:cS σ ⟨p,h1⟩) (hh:h1 0= .vec e n rows) (hr:iv rows (bG H l)) (I:∀ a,(H a).length=n) (hg:gB N ⟨p,h1⟩ k= .vec 0::gs) (r2:SV.toDVs gs=some as) (hq:Hg ⟨p,aD h1 0 (.vec e n (bG H l))⟩ qs=some xs) (T:SV.toDVs xs=some O) (J:E (a,l)=mj (O.map .d)):z_ N k qs (E r) (.own (.sl e (List.replicate n .sh)) (.slice (r.2.map H))::as.map .d) .normal σ:=by
 cases Z
 have h2:cS ⟨p,h1⟩ ⟨p,aD h1 0 (.vec e n (bG H l))⟩:=xd (fun _=> .inl rfl) fun j=>by
  by_cases hj:j=0
  ·subst hj;simp only[aD,T6,hh];exact jV hr
  ·simp only[aD,hj,Tv];exact be rfl
 refine⟨_,cS.trans h7 h2,xs,O.map .d,[0],hq,J,by rw[TO,yq T], ?_⟩
 rw[z8 (h2:=h1),hg]
 exact Je (g1:=[]) (M:=[]) (mk:= .vec) (rfl) r2 T (lF I l) (wZ I l) (by simp only[aD,T6])
end
attribute [push_cast] JX JY
