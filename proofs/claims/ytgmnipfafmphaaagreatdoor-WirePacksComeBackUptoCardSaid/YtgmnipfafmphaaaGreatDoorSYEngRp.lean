/-
  My text.
-/
import Derived.Test.YtgmnipfafmphaaaGreatDoorSYEngRo
namespace Go.Proofs.YtgmnipfafmphaaaGreatDoor
set_option linter.unusedSimpArgs false
set_option linter.unusedVariables false
open Go.RowKit
variable {A:Type} {J M:List DV} {N:Nat} {P:Program} {a2:List DV} {args:List SX} {as:List DV} {ch:Ch} {d:DV} {e:Nat} {fn:Func} {g1 g2 gs:List SV} {h h1:Nat->Ch} {id:Nat} {m:bj} {mk:Nat->SV} {n:Nat} {outs:List SV} {p:Nat->SV} {post pre:List DV} {qs:List RV} {res:SV} {rows:List (List SV)} {x:SC} {xs:List SV}
def Lu (N:Nat) (l:List SV):Nat->SV:=fun j=>if j<N then(match l[j]? with|some x=>x|none=> .d .any) else match l[j - N]? with|some x=>x|none=> .d .any
theorem AA {x:SV} (j:Nat):(pre.map SV.d++x::post.map SV.d)[j]?=if j=pre.length then some x else if j<pre.length then(pre[j]?).map SV.d else(post[j - pre.length - 1]?).map SV.d:=by
 by_cases h:j=pre.length
 ·subst h
  rw[U4 rfl,Tr oS]
  simp
 ·rw[if_neg h]
  by_cases h2:j<pre.length
  ·rw[U4 h2,TP (by simpa using h2),TC]
  ·rw[if_neg h2,Tr oT]
   obtain⟨i,hi⟩:∃ i,j - (pre.map SV.d).length=i+1:=⟨j - pre.length - 1,by simp;omega⟩
   rw[hi,TO,TC]
   have:j - pre.length - 1=i:=by simp at hi;omega
   rw[this]
theorem FI {f k:Nat} (C:P.funcs[f]?=some fn) (o:fits P f fn x qs k=true) (F:fn.ntmps=N) (hk:pre.length+post.length+1=k) (ho:cf m d=some (ch,mk)) (J:outs.length=k) (h:AW P x (yZ N k qs res outs) ⟨Lu N (pre.map .d++mk pre.length::post.map .d),am (fun _=> .dead) pre.length ch⟩):bu P f (pre.map .d++ .own m d::post.map .d) res outs:=by
 subst F hk
 have I:(pre.map SV.d++SV.own m d::post.map SV.d).length=pre.length+post.length+1:=by simp;omega
 refine vn (x:=x) (qs:=qs) C (by rw[I];exact o) ?_ (by rw[I];exact J) ?_
 ·rw[Ti]
  intro y hy
  rcases Te.1 hy with hy|hy
  ·obtain⟨d,_,rfl⟩:=Tp.1 hy;rfl
  ·rcases Tf.1 hy with rfl|hy
   ·simp only[FK,ho,Option.isSome_some]
   ·obtain⟨d,_,rfl⟩:=Tp.1 hy;rfl
 ·rw[I]
  have hv:∀ i,uj i (.own m d)=mk i:=fun i=>by simp only[uj,ho]
  have hx:∀ j,(match(pre.map SV.d++SV.own m d::post.map SV.d)[j]? with|some x=>uj j x|none=>SV.d .any)=(match(pre.map SV.d++mk pre.length::post.map SV.d)[j]? with|some x=>x|none=>SV.d .any):=fun j=>by
   rw[AA,AA]
   by_cases h1:j=pre.length
   ·subst h1;simp only[TB,hv]
   ·rw[if_neg h1,if_neg h1]
    by_cases h2:j<pre.length
    ·rw[U4 h2];cases pre[j]?<;>rfl
    ·rw[if_neg h2];cases post[j - pre.length - 1]?<;>rfl
  have e1:AD fn.ntmps (pre.map SV.d++SV.own m d::post.map SV.d)=Lu fn.ntmps (pre.map .d++mk pre.length::post.map .d):=by
   funext j
   unfold AD Lu
   by_cases X:j<fn.ntmps
   ·simp only[X,TB];exact hx j
   ·simp only[X,Tq];exact hx (j - fn.ntmps)
  have e2:Ce (pre.map SV.d++SV.own m d::post.map SV.d)=am (fun _=> .dead) pre.length ch:=by
   funext j
   unfold Ce am
   rw[AA]
   by_cases h1:j=pre.length
   ·rw[U4 h1,U4 h1]
    simp only[Cd,ho]
   ·rw[if_neg h1,if_neg h1]
    by_cases h2:j<pre.length
    ·rw[U4 h2];cases pre[j]?<;>rfl
    ·rw[if_neg h2];cases post[j - pre.length - 1]?<;>rfl
  rw[e1,e2];exact h
def Id (N:Nat) (c:SV) (as:List DV):Nat->SV:=fun j=>if j=0 then c else if j<N then(match as[j - 1]? with|some d=> .d d|none=> .d .any) else if j=N then c else match as[j - N - 1]? with|some d=> .d d|none=> .d .any
theorem P4 {c:SV} (F:0<N):Lu N (c::as.map .d)=Id N c as:=by
 funext j
 unfold Lu Id
 by_cases h0:j=0
 ·subst h0;simp[F]
 ·obtain⟨i,rfl⟩:∃ i,j=i+1:=⟨j - 1,by omega⟩
  by_cases X:i+1<N
  ·simp only[X,TB,TO,TC,UP]
   rw[if_neg oM]
   cases as[i]?<;>rfl
  ·simp only[X,Tq]
   rw[if_neg oM]
   by_cases he:i+1=N
   ·simp only[he,TB,T9,Tz]
   ·obtain⟨q,hq⟩:∃ q,i+1 - N=q+1:=⟨i+1 - N - 1,by omega⟩
    simp only[he,Tq,hq,TO,TC,UP]
    cases as[q]?<;>rfl
theorem js {f k:Nat} (C:P.funcs[f]?=some fn) (o:fits P f fn x qs k=true) (F:fn.ntmps=N) (hk:post.length+1=k) (ho:cf m d=some (ch,mk)) (J:outs.length=k) (r8:0<N) (h:AW P x (yZ N k qs res outs) ⟨Id N (mk 0) post,am (fun _=> .dead) 0 ch⟩):bu P f (.own m d::post.map .d) res outs:=by
 rw[<-P4 r8] at h
 exact FI (pre:=[]) C o F (by simpa using hk) ho J h
section
variable {α K V:Type} {H:α->List DV} {n e:Nat} {u:K->DV} {f:V->DV} {kk:KK}
theorem mU (F:∀ a,(H a).length=n) (l:List α):cf (.sl e (List.replicate n .sh)) (.slice (l.map H))=some (.vec e n (aM H l),.vec):=by
 simp only[cf,Tn,rm F]
theorem AB (F:∀ a,(H a).length=n) (l:List α):eZ (.sl e (List.replicate n .sh)) (.slice (l.map H)):=by
 intro r D
 obtain⟨a,_,rfl⟩:=Tp.1 D
 rw[Tn];exact F a
def JA (u:K->DV) (f:V->DV) (W:List (K×V)):DV:= .map (W.map fun p=>u p.1) (W.map fun p=>f p.2)
theorem Ie (W:List (K×V)):cf (.mp kk .sh) (JA u f W)=some (.map kk (kw u (fun v=> .d (f v)) W),.mp):=by
 have:∀ W:List (K×V),(W.map fun p=>u p.1).zip ((W.map fun p=>f p.2).map (sJ .sh))=kw u (fun v=> .d (f v)) W:=fun W=>by
  induction W with
  |nil=>rfl
  |cons p W ih=>
   simp only[Tc,List.zip_cons_cons,ih]
   rfl
 unfold JA
 simp only[cf,this]
theorem Lv (W:List (K×V)):eZ (.mp kk .sh) (JA u f W):=by
 unfold JA eZ
 simp
end
section
variable {P:Program} {s:Nat->SV} {h:Nat->Ch} {G:St->Prop} {sos:List SO} {α K V Y R:Type} {H:α->List DV} {u:K->DV} {w:V->DV} {kk:KK} {σ:St} {g0:SV} {d0:DV}
theorem Lw {d':DV} {ch':Ch} {mk':Nat->SV} (h1:SV.toDVs g1=some M) (h2:SV.toDVs g2=some a2) (ho:cf m d=some (ch,mk)) (hs:eZ m d) (ho':cf m d'=some (ch',mk')) (hh:h id=ch):
  HandL h (g1++mk id::g2) (M.map .d++ .own m d::a2.map .d) (M.map .d++ .own m d'::a2.map .d) [(id,ch')]:=by
 induction g1 generalizing M with
 |nil=>
  simp only[SV.toDVs,SN] at h1;subst h1
  exact .ptr ho hs ho' hh oS (nU h2)
 |cons g g1 ih=>
  unfold SV.toDVs at h1
  split at h1
  ·rename_i d0 i E h4
   simp only[SN] at h1;subst h1
   exact .data E (ih h4)
  ·cases h1
theorem R8 {r:R} {a:Option Y} {k:Y->Option R} {dst:Option Nat} {f:Nat} {D:Y->DV} {C:Y->Ch} {E:Y->SV} {ins outs:Y->List SV} {s':Y->Nat->SV} (Z:a.bind k=some r) (hx:args.map (ev s)=g1++mk id::g2) (h1:SV.toDVs g1=some M) (h2:SV.toDVs g2=some a2) (hh:h id=ch) (ho:cf m d=some (ch,mk)) (i:eZ m d) (ho':∀ y,cf m (D y)=some (C y,mk)) (hs:∀ y,a=some y->bu P f (ins y) (E y) (outs y)) (hi:∀ y,ins y=M.map .d++ .own m d::a2.map .d) (b:∀ y,outs y=M.map .d++ .own m (D y)::a2.map .d) (c:∀ y,(E y).closed=true/\(E y).nOwn=0) (hd:∀ y,s' y=match dst with|some t=>am s t (E y)|none=>s) (hk:∀ y,k y=some r->aD P G sos ⟨s' y,am h id (C y)⟩):aD P G (.p dst (.f f) args::sos) ⟨s,h⟩:=by
 cases hy:a with
 |none=>rw[hy] at Z;cases Z
 |some y=>
  rw[hy] at Z
  obtain⟨T,c2⟩:=c y
  refine Ra (j:=⟨s,h⟩) (L:=[(id,C y)]) (bm.refl _) (hs y hy) T ?_ (s':=s' y) (h':=am h id (C y)) ?_ (hk y Z)
  ·have e1:args.map (ev (St.s ⟨s,h⟩))=g1++mk id::g2:=hx
   rw[e1,hi y,b y]
   exact Lw h1 h2 ho i (ho' y) hh
  ·rw[hd y]
   cases dst<;>simp only[takes,c2,TB,iT]
theorem vm {r:R} {a:Option Y} {k:Y->Option R} {dst f:Nat} {b:List DV} {l:List α} {l':Y->List α} {E:Y->SV} (Z:a.bind k=some r) (hx:args.map (ev s)= .vec id::gs) (u4:SV.toDVs gs=some b) (hh:h id= .vec e n (aM H l)) (F:∀ a,(H a).length=n) (hs:∀ y,a=some y->bu P f (.own (.sl e (List.replicate n .sh)) (.slice (l.map H))::as.map .d) (E y) (.own (.sl e (List.replicate n .sh)) (.slice ((l' y).map H))::as.map .d)) (he:b=as) (c:∀ y,(E y).closed=true/\(E y).nOwn=0) (hk:∀ y,k y=some r->aD P G sos ⟨am s dst (E y),am h id (.vec e n (aM H (l' y)))⟩):aD P G (.p (some dst) (.f f) args::sos) ⟨s,h⟩:=by
 subst he
 exact R8 (mk:= .vec) (g1:=[]) (M:=[]) (m:= .sl e (List.replicate n .sh)) (C:=fun y=> .vec e n (aM H (l' y))) (D:=fun y=> .slice ((l' y).map H)) (ins:=fun _=>_) (outs:=fun y=>_) (s':=fun y=>am s dst (E y)) Z hx (rfl) u4 hh (mU F l) (AB F l) (fun y=>mU F (l' y)) hs (fun _=>rfl) (fun _=>rfl) c (fun _=>rfl) hk
theorem Lx (h1:SV.toDVs g1=some M) (h2:SV.toDVs g2=some a2) (E:SV.toDVs xs=some J) (ho:cf m d=some (ch,mk)) (hs:eZ m d) (hh:h id=ch):
  lb h ((g1++mk id::g2)++xs) ((M.map .d++ .own m d::a2.map .d)++J.map .d) [id]:=by
 induction g1 generalizing M with
 |nil=>
  simp only[SV.toDVs,SN] at h1;subst h1
  exact .own ho hs hh oS (Ex (ww E) h2)
 |cons g g1 ih=>
  unfold SV.toDVs at h1
  split at h1
  ·rename_i d0 i h4 h5
   simp only[SN] at h1;subst h1
   exact .data h4 (ih h5)
  ·cases h1
theorem AC {N:Nat} {p:Nat->SV} {h1 h2:Nat->Ch}:∀ n,gV N ⟨p,h1⟩ n=gV N ⟨p,h2⟩ n
 |0=>rfl
 |n+1=>by
  show gV N ⟨p,h1⟩ n++[p (N+n)]=gV N ⟨p,h2⟩ n++[p (N+n)]
  rw[AC (h1:=h1) (h2:=h2) n]
theorem xz:∀ {xs:List SV} {J:List DV},SV.toDVs xs=some J->J.length=xs.length
 |[],J,hd=>by simp only[SV.toDVs,SN] at hd;subst hd;rfl
 |x::xs,J,hd=>by
  unfold SV.toDVs at hd
  split at hd
  ·rename_i d i h1 h2
   simp only[SN] at hd;subst hd
   simp[xz h2]
  ·cases hd
theorem Ly {r:A×List α} {a:A} {l:List α} {k:Nat} {E:A×List α->SV} (Z:some (a,l)=some r) (h6:bm σ ⟨p,h1⟩) (hh:h1 0= .vec e n rows) (D:bL rows (aM H l)) (F:∀ a,(H a).length=n) (hg:gV N ⟨p,h1⟩ k= .vec 0::gs) (u4:SV.toDVs gs=some as) (hq:JF ⟨p,am h1 0 (.vec e n (aM H l))⟩ qs=some xs) (T:SV.toDVs xs=some J) (he:E (a,l)=pQ (J.map .d)):yZ N k qs (E r) (.own (.sl e (List.replicate n .sh)) (.slice (r.2.map H))::as.map .d) .ret σ:=by
 cases Z
 have h2:bm ⟨p,h1⟩ ⟨p,am h1 0 (.vec e n (aM H l))⟩:=mH (fun _=> .inl rfl) fun j=>by
  by_cases hj:j=0
  ·subst hj;simp only[am,TB,hh];exact dG D
  ·simp only[am,hj,Tq];exact aN rfl
 refine⟨_,bm.trans h6 h2,xs,J.map .d,[0],hq,he,by rw[TL,xz T], ?_⟩
 rw[AC (h2:=h1),hg]
 exact Lx (g1:=[]) (M:=[]) (mk:= .vec) (rfl) u4 T (mU F l) (AB F l) (by simp only[am,TB])
theorem nQ {r:A×List α} {a:A} {l:List α} {k:Nat} {E:A×List α->SV} (Z:some (a,l)=some r) (h6:bm σ ⟨p,h1⟩) (hh:h1 0= .vec e n rows) (D:bL rows (aM H l)) (F:∀ a,(H a).length=n) (hg:gV N ⟨p,h1⟩ k= .vec 0::gs) (u4:SV.toDVs gs=some as) (hq:JF ⟨p,am h1 0 (.vec e n (aM H l))⟩ qs=some xs) (T:SV.toDVs xs=some J) (he:E (a,l)=pQ (J.map .d)):yZ N k qs (E r) (.own (.sl e (List.replicate n .sh)) (.slice (r.2.map H))::as.map .d) .normal σ:=by
 cases Z
 have h2:bm ⟨p,h1⟩ ⟨p,am h1 0 (.vec e n (aM H l))⟩:=mH (fun _=> .inl rfl) fun j=>by
  by_cases hj:j=0
  ·subst hj;simp only[am,TB,hh];exact dG D
  ·simp only[am,hj,Tq];exact aN rfl
 refine⟨_,bm.trans h6 h2,xs,J.map .d,[0],hq,he,by rw[TL,xz T], ?_⟩
 rw[AC (h2:=h1),hg]
 exact Lx (g1:=[]) (M:=[]) (mk:= .vec) (rfl) u4 T (mU F l) (AB F l) (by simp only[am,TB])
end
attribute [push_cast] Id
end Go.Proofs.YtgmnipfafmphaaaGreatDoor

