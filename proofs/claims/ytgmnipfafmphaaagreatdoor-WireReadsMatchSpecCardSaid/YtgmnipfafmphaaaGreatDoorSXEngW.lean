/-
  My text.
-/
import Derived.Test.YtgmnipfafmphaaaGreatDoorSXEngZ
namespace Go.Proofs.YtgmnipfafmphaaaGreatDoor
set_option linter.unusedSimpArgs false
set_option linter.unusedVariables false
open Go.RowKit
variable {T:List SV} {a:Nat} {args:List SX} {as:List DV} {b:IntKind} {c:SV} {cells:List SV} {dst e f id k:Nat} {late:List (Nat×Nat×sA)} {n off:Nat} {post pre:List (List SV)} {sz t:Nat} {y:SX}
def mK (pre:List (List SV)) (cells:List SV) (post:List (List SV)):List (List SV):=pre++cells::post
theorem tY (hk:k=pre.length):(mK pre cells post)[k]?=some cells:=by
 subst hk;unfold mK;simp
theorem Ik (hk:k=pre.length):(mK pre cells post).set k T=mK pre T post:=by
 subst hk;unfold mK;simp
theorem BB:(mK pre cells post).length=pre.length+(post.length+1):=by
 unfold mK;simp
theorem FH (id:Nat) (o:DV):dz id o (mK pre cells post)=mK (dz id o pre) (ck id o cells) (dz id o post):=by
 unfold mK;rw[nO];simp only[dz]
section
variable {P:Program} {B:SC} {Q:AX->St->Prop} {s:Nat->SV} {h:Nat->Ch} {K:St->Prop} {sos:List SO} {α β:Type} {H:α->List DV} {A:β->List DV} {ms S:List bH} {l p q:List α} {x:α} {pre post:List (List SV)} {cells:List SV}
theorem DJ {e':Nat} {o:List (List SV)} {y:List β} (hj:h f= .vec e' n o) (hh:h id= .vec e sz (mK pre cells post)) (hk:k=pre.length) (hc:cells[off]?=some (.vec f)) (D:bv o (ar S A y)) (hn:S.length=n) (F:∀ a,(A a).length=S.length) (U:id≠f) (hs:(ck f .any cells).set off (.own (.sl e' S) (.slice (y.map A)))=T):bt ⟨s,h⟩ ⟨bG f .any s,ap (ap (bK f .any h) id (.vec e sz (mK (dz f .any pre) T (dz f .any post)))) f .dead⟩:=by
 subst hn hs
 have h1:bt ⟨s,h⟩ ⟨s,ap h f (.vec e' S.length (ar S A y))⟩:=mJ (fun _=> .inl rfl) fun j=>by
  by_cases X:j=f
  ·subst X;simp only[ap,VW,hj];exact fO D
  ·simp only[ap,X,VQ];exact bT rfl
 have r5:k=(dz f .any pre).length:=by rw[kM];exact hk
 have h2:=nN (σ:=⟨s,ap h f (.vec e' S.length (ar S A y))⟩) (id:=id) (g:=f) (p:= .v k off) (m:= .sl e' S) (d:= .slice (y.map A)) (ch:= .vec e' S.length (ar S A y)) (mk:= .vec) U
  (by simp only[cP];rfl) (by intro r D;obtain⟨a,_,rfl⟩:=VT.1 D;exact F a) (by simp only[ap,U,VQ,hh,mm,tY hk,hc]) (by simp only[ap,VW])
 have e1:hR ⟨s,ap h f (.vec e' S.length (ar S A y))⟩ id (.v k off) f (.sl e' S) (.slice (y.map A))=⟨bG f .any s,ap (ap (bK f .any h) id (.vec e sz (mK (dz f .any pre) ((ck f .any cells).set off (.own (.sl e' S) (.slice (y.map A)))) (dz f .any post)))) f .dead⟩:=by
  have I:ux (.own (.sl e' S) (.slice (y.map A))) (mj f .any ((ap h f (.vec e' S.length (ar S A y))) id)) (.v k off)= .vec e sz (mK (dz f .any pre) ((ck f .any cells).set off (.own (.sl e' S) (.slice (y.map A)))) (dz f .any post)):=by
   rw[show ap h f (.vec e' S.length (ar S A y)) id=h id from bh _ _ _ _ U,hh]
   simp only[mj,FH,ux,tY r5,Ik r5]
  unfold hR
  dsimp only
  rw[I]
  congr 1
  funext j
  by_cases u:j=f
  ·subst u;simp only[ap,VW]
  ·by_cases r4:j=id
   ·subst r4;simp only[ap,u,VQ,VW]
   ·simp only[ap,u,r4,VQ,bK]
 rw[e1] at h2
 exact h1.trans h2
end
def Az {α:Type} (ms w:List bH) (H:α->List DV) (l:List α) (i:Nat):List (List SV):=ar ms H (l.take i)++ar w H (l.drop i)
section
variable {α:Type} {ms w:List bH} {H:α->List DV} {l:List α} {x:α} {i:Nat}
theorem FI:Az ms w H l 0=ar w H l:=rfl
theorem Il:Az ms w H l l.length=ar ms H l:=by unfold Az;simp[ar]
theorem FJ (h:l[i]?=some x):Az ms w H l i=mK (ar ms H (l.take i)) (bA w (H x)) (ar w H (l.drop (i+1))):=by
 obtain⟨h9,R⟩:=Vr.1 h
 unfold Az mK
 rw[WC h9,R];rfl
theorem FK (h:l[i]?=some x):mK (ar ms H (l.take i)) (bA ms (H x)) (ar w H (l.drop (i+1)))=Az ms w H l (i+1):=by
 obtain⟨h9,R⟩:=Vr.1 h
 unfold Az mK
 rw[List.take_succ_eq_append_getElem h9,R,uI,Vy];rfl
end
section
variable {P:Program} {s:Nat->SV} {h:Nat->Ch} {K:St->Prop} {sos:List SO} {α:Type} {H:α->List DV} {ms:List bH} {p l:List α} {cells:List SV} {post:List (List SV)}
theorem NT {i:SX} {n:Int} (hx:ev s y= .vec id) (hh:h id= .vec e sz (mK pre cells post)) (hi:ev s i= .d (.int b n)) (J:pre.length=k) (hn:n=(k:Int)) (hk:aI P K sos ⟨ap s dst (.vref id sz k 0),h⟩):aI P K (.r dst (.idx sz y i)::sos) ⟨s,h⟩:=by
 subst hn J
 refine jj (p:=(0:Int)<=(pre.length:Int)/\(pre.length:Int)<((mK pre cells post).length:Nat)/\sz=sz) (v:= .vref id sz pre.length 0) (by simp only[rd,hi,hx,hh];rfl) ⟨by omega, ?_,rfl⟩ hk
 rw[BB];omega
theorem Tw (Y:ev s y= .vref id sz k off) (hh:h id= .vec e sz (mK pre cells post)) (J:pre.length=k) (hc:cells[off]?=some c) (r2:c.noOwn=true) (hk:aI P K sos ⟨ap s dst c,h⟩):aI P K (.r dst (.ld1 y)::sos) ⟨s,h⟩:=
 jj (p:=sz=sz) (v:=c) (by simp only[rd,Y,hh,tY J.symm,hc,r2,VW]) rfl hk
theorem Sc {cs:List SV} (Y:ev s y= .vref id sz k off) (hh:h id= .vec e sz (mK pre cells post)) (J:pre.length=k) (hc:(cells.drop off).take n=cs) (r2:SV.noOwns cs=true) (hl:off+n<=cells.length) (hk:aI P K sos ⟨ap s dst (.agg cs),h⟩):aI P K (.r dst (.ldA n y)::sos) ⟨s,h⟩:=
 jj (p:=sz=sz/\off+n<=cells.length) (v:= .agg cs) (by simp only[rd,Y,hh,tY J.symm,hc,r2,VW]) ⟨rfl,hl⟩ hk
theorem NU {v0:SV} {v:SX} (Y:ev s y= .vref id sz k off) (hv:(ev s v).cells?=some [v0]) (hh:h id= .vec e sz (mK pre cells post)) (J:pre.length=k) (ho:off<cells.length) (hs:cells.set off v0=T) (hl:su ⟨s,ap h id (.vec e sz (mK pre T post))⟩ late) (hk:aI P K sos ⟨s,ap h id (.vec e sz (mK pre T post))⟩):aI P K (.x 0 (.st 1 y v) late::sos) ⟨s,h⟩:=by
 subst hs;rw[<-we ho] at hk hl
 exact Bj (p:=sz=sz/\[v0].length=1/\off+1<=cells.length) (by simp only[wr,Y,hh,hv,tY J.symm,Ik J.symm]) ⟨rfl,rfl,ho⟩ hl hk
theorem NV {i:SX} {n:Int} (hx:ev s y= .vec id) (hh:h id= .vec e sz (mK pre cells post)) (hi:ev s i= .d (.int b n)) (J:pre.length=k) (hn:n=(k:Int)) (ht:s t= .vref id sz k 0) (hl:su ⟨s,h⟩ late):su ⟨s,h⟩ ((a,t,.idx sz y i)::late):=by
 subst hn J
 refine lj (p:=(0:Int)<=(pre.length:Int)/\(pre.length:Int)<((mK pre cells post).length:Nat)/\sz=sz) (v:= .vref id sz pre.length 0) (by simp only[rd,hi,hx,hh];rfl) ⟨by omega, ?_,rfl⟩ ht.symm hl
 rw[BB];omega
theorem PZ (Y:ev s y= .vref id sz k off) (hh:h id= .vec e sz (mK pre cells post)) (J:pre.length=k) (hc:cells[off]?=some c) (r2:c.noOwn=true) (ht:s t=c) (hl:su ⟨s,h⟩ late):su ⟨s,h⟩ ((a,t,.ld1 y)::late):=
 lj (p:=sz=sz) (v:=c) (by simp only[rd,Y,hh,tY J.symm,hc,r2,VW]) rfl ht.symm hl
theorem UI {b:List DV} (hx:SV.toDVs (args.map (ev s))=some b) (hs:bw P f (as.map .d) (.own (.sl e (List.replicate n .sh)) (.slice (l.map H))) (as.map .d)) (he:b=as) (F:∀ a,(H a).length=n) (hk:aI P K sos ⟨ap (bG dst .any s) dst (.vec dst),ap (bK dst .any h) dst (.vec e n (ar (List.replicate n .sh) H l))⟩):aI P K (.p (some dst) (.f f) args::sos) ⟨s,h⟩:=
 by
  rw[p8 F] at hk
  subst he
  exact Um (z:=⟨s,h⟩) (L:=[]) (bt.refl _) hs rfl (tZ hx) (AB F) hk
end
section
variable {P:Program} {s:Nat->SV} {h:Nat->Ch} {K:St->Prop} {sos:List SO} {α:Type} {H:α->List DV} {l:List α}
theorem Sd {n:Int} {x i:SX} {k:IntKind} {e:α} (hx:ev s x= .d (.slice (l.map H))) (hi:ev s i= .d (.int k n)) (F:∀ e,(H e).length=sz) (he:aV l n=some e) (hk:aI P K sos ⟨ap s dst (.d (.ptr (H e))),h⟩):aI P K (.r dst (.idx sz x i)::sos) ⟨s,h⟩:=
 G0 (l:=l) (kk:=fun _=>some ()) (r:=()) (by rw[he];rfl) hx hi F fun e' g _=>by
  rw[he] at g;cases g;exact hk
theorem NW {i:Nat} {e:α} (h:l[i]?=some e):aV l (i:Int)=some e:=by unfold aV;simpa using h
theorem JN {σ:St} (F:∀ a,(H a).length=n):takes σ [] (some dst) (.own (.sl e (List.replicate n .sh)) (.slice (l.map H)))=some ⟨ap (bG dst .any σ.s) dst (.vec dst),ap (bK dst .any σ.h) dst (.vec e n (ar (List.replicate n .sh) H l))⟩:=by
 rw[p8 F];exact AB F
theorem Tx {b:List DV} (hx:SV.toDVs (args.map (ev s))=some b) (hs:bw P f (as.map .d) (.own (.sl e (List.replicate n .sh)) (.slice (l.map H))) (as.map .d)) (he:b=as) (F:∀ a,(H a).length=n) (hl:su ⟨ap (bG dst .any s) dst (.vec dst),ap (bK dst .any h) dst (.vec e n (ar (List.replicate n .sh) H l))⟩ late) (hk:aI P K sos ⟨ap (bG dst .any s) dst (.vec dst),ap (bK dst .any h) dst (.vec e n (ar (List.replicate n .sh) H l))⟩):aI P K (.q dst (.f f) args late::sos) ⟨s,h⟩:=by
 subst he
 exact⟨f,b,_,_,rfl,hx,hs,rfl,JN F,hl,hk⟩
end
attribute [push_cast] FH
