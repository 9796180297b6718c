/-
  My text.
-/
import Derived.Test.YtgmnipfafmphaaaGreatDoorSYEngZ
namespace Go.Proofs.YtgmnipfafmphaaaGreatDoor
set_option linter.unusedSimpArgs false
set_option linter.unusedVariables false
open Go.RowKit
variable {R:List SV} {a:Nat} {args:List SX} {as:List DV} {b:IntKind} {c:SV} {cells:List SV} {dst e f id k:Nat} {late:List (Nat×Nat×oX)} {n off:Nat} {post pre:List (List SV)} {sz t:Nat} {y:SX}
def jI (pre:List (List SV)) (cells:List SV) (post:List (List SV)):List (List SV):=pre++cells::post
theorem pZ (hk:k=pre.length):(jI pre cells post)[k]?=some cells:=by
 subst hk;unfold jI;simp
theorem FV (hk:k=pre.length):(jI pre cells post).set k R=jI pre R post:=by
 subst hk;unfold jI;simp
theorem yJ:(jI pre cells post).length=pre.length+(post.length+1):=by
 unfold jI;simp
theorem Dc (id:Nat) (o:DV):c0 id o (jI pre cells post)=jI (c0 id o pre) (cm id o cells) (c0 id o post):=by
 unfold jI;rw[mY];simp only[c0]
section
variable {P:Program} {B:SC} {Q:AX->St->Prop} {s:Nat->SV} {h:Nat->Ch} {K:St->Prop} {sos:List SO} {α β:Type} {H:α->List DV} {A:β->List DV} {ms ms':List bj} {l p q:List α} {x:α} {pre post:List (List SV)} {cells:List SV}
theorem A3 {e':Nat} {o:List (List SV)} {y:List β} (hj:h f= .vec e' n o) (hh:h id= .vec e sz (jI pre cells post)) (hk:k=pre.length) (hc:cells[off]?=some (.vec f)) (D:bL o (au ms' A y)) (hn:ms'.length=n) (F:∀ a,(A a).length=ms'.length) (U:id≠f) (hs:(cm f .any cells).set off (.own (.sl e' ms') (.slice (y.map A)))=R):bm ⟨s,h⟩ ⟨bl f .any s,am (am (bG f .any h) id (.vec e sz (jI (c0 f .any pre) R (c0 f .any post)))) f .dead⟩:=by
 subst hn hs
 have h1:bm ⟨s,h⟩ ⟨s,am h f (.vec e' ms'.length (au ms' A y))⟩:=mH (fun _=> .inl rfl) fun j=>by
  by_cases r3:j=f
  ·subst r3;simp only[am,TB,hj];exact dG D
  ·simp only[am,r3,Tq];exact aN rfl
 have r2:k=(c0 f .any pre).length:=by rw[iZ];exact hk
 have h2:=nO (σ:=⟨s,am h f (.vec e' ms'.length (au ms' A y))⟩) (id:=id) (g:=f) (p:= .v k off) (m:= .sl e' ms') (d:= .slice (y.map A)) (ch:= .vec e' ms'.length (au ms' A y)) (mk:= .vec) U
  (by simp only[cf];rfl) (by intro r D;obtain⟨a,_,rfl⟩:=Tp.1 D;exact F a) (by simp only[am,U,Tq,hh,jZ,pZ hk,hc]) (by simp only[am,TB])
 have e1:iu ⟨s,am h f (.vec e' ms'.length (au ms' A y))⟩ id (.v k off) f (.sl e' ms') (.slice (y.map A))=⟨bl f .any s,am (am (bG f .any h) id (.vec e sz (jI (c0 f .any pre) ((cm f .any cells).set off (.own (.sl e' ms') (.slice (y.map A)))) (c0 f .any post)))) f .dead⟩:=by
  have I:sK (.own (.sl e' ms') (.slice (y.map A))) (jY f .any ((am h f (.vec e' ms'.length (au ms' A y))) id)) (.v k off)= .vec e sz (jI (c0 f .any pre) ((cm f .any cells).set off (.own (.sl e' ms') (.slice (y.map A)))) (c0 f .any post)):=by
   rw[show am h f (.vec e' ms'.length (au ms' A y)) id=h id from aY _ _ _ _ U,hh]
   simp only[jY,Dc,sK,pZ r2,FV r2]
  unfold iu
  dsimp only
  rw[I]
  congr 1
  funext j
  by_cases c:j=f
  ·subst c;simp only[am,TB]
  ·by_cases r4:j=id
   ·subst r4;simp only[am,c,Tq,TB]
   ·simp only[am,c,r4,Tq,bG]
 rw[e1] at h2
 exact h1.trans h2
end
def xK {α:Type} (ms u:List bj) (H:α->List DV) (l:List α) (i:Nat):List (List SV):=au ms H (l.take i)++au u H (l.drop i)
section
variable {α:Type} {ms u:List bj} {H:α->List DV} {l:List α} {x:α} {i:Nat}
theorem Dd:xK ms u H l 0=au u H l:=rfl
theorem FW:xK ms u H l l.length=au ms H l:=by unfold xK;simp[au]
theorem De (h:l[i]?=some x):xK ms u H l i=jI (au ms H (l.take i)) (bi u (H x)) (au u H (l.drop (i+1))):=by
 obtain⟨X,R⟩:=SY.1 h
 unfold xK jI
 rw[T_ X,R];rfl
theorem Df (h:l[i]?=some x):jI (au ms H (l.take i)) (bi ms (H x)) (au u H (l.drop (i+1)))=xK ms u H l (i+1):=by
 obtain⟨X,R⟩:=SY.1 h
 unfold xK jI
 rw[List.take_succ_eq_append_getElem X,R,ro,S6];rfl
end
section
variable {P:Program} {s:Nat->SV} {h:Nat->Ch} {K:St->Prop} {sos:List SO} {α:Type} {H:α->List DV} {ms:List bj} {p l:List α} {cells:List SV} {post:List (List SV)}
theorem LO {i:SX} {n:Int} (hx:ev s y= .vec id) (hh:h id= .vec e sz (jI pre cells post)) (hi:ev s i= .d (.int b n)) (J:pre.length=k) (hn:n=(k:Int)) (hk:aD P K sos ⟨am s dst (.vref id sz k 0),h⟩):aD P K (.r dst (.idx sz y i)::sos) ⟨s,h⟩:=by
 subst hn J
 refine iC (p:=(0:Int)<=(pre.length:Int)/\(pre.length:Int)<((jI pre cells post).length:Nat)/\sz=sz) (v:= .vref id sz pre.length 0) (by simp only[rd,hi,hx,hh];rfl) ⟨by omega, ?_,rfl⟩ hk
 rw[yJ];omega
theorem Rh (Y:ev s y= .vref id sz k off) (hh:h id= .vec e sz (jI pre cells post)) (J:pre.length=k) (hc:cells[off]?=some c) (r1:c.noOwn=true) (hk:aD P K sos ⟨am s dst c,h⟩):aD P K (.r dst (.ld1 y)::sos) ⟨s,h⟩:=
 iC (p:=sz=sz) (v:=c) (by simp only[rd,Y,hh,pZ J.symm,hc,r1,TB]) rfl hk
theorem Qf {cs:List SV} (Y:ev s y= .vref id sz k off) (hh:h id= .vec e sz (jI pre cells post)) (J:pre.length=k) (hc:(cells.drop off).take n=cs) (r1:SV.noOwns cs=true) (hl:off+n<=cells.length) (hk:aD P K sos ⟨am s dst (.agg cs),h⟩):aD P K (.r dst (.ldA n y)::sos) ⟨s,h⟩:=
 iC (p:=sz=sz/\off+n<=cells.length) (v:= .agg cs) (by simp only[rd,Y,hh,pZ J.symm,hc,r1,TB]) ⟨rfl,hl⟩ hk
theorem LP {v0:SV} {v:SX} (Y:ev s y= .vref id sz k off) (hv:(ev s v).cells?=some [v0]) (hh:h id= .vec e sz (jI pre cells post)) (J:pre.length=k) (ho:off<cells.length) (hs:cells.set off v0=R) (hl:oQ ⟨s,am h id (.vec e sz (jI pre R post))⟩ late) (hk:aD P K sos ⟨s,am h id (.vec e sz (jI pre R post))⟩):aD P K (.x 0 (.st 1 y v) late::sos) ⟨s,h⟩:=by
 subst hs;rw[<-yK ho] at hk hl
 exact B2 (p:=sz=sz/\[v0].length=1/\off+1<=cells.length) (by simp only[wr,Y,hh,hv,pZ J.symm,FV J.symm]) ⟨rfl,rfl,ho⟩ hl hk
theorem LQ {i:SX} {n:Int} (hx:ev s y= .vec id) (hh:h id= .vec e sz (jI pre cells post)) (hi:ev s i= .d (.int b n)) (J:pre.length=k) (hn:n=(k:Int)) (ht:s t= .vref id sz k 0) (hl:oQ ⟨s,h⟩ late):oQ ⟨s,h⟩ ((a,t,.idx sz y i)::late):=by
 subst hn J
 refine cn (p:=(0:Int)<=(pre.length:Int)/\(pre.length:Int)<((jI pre cells post).length:Nat)/\sz=sz) (v:= .vref id sz pre.length 0) (by simp only[rd,hi,hx,hh];rfl) ⟨by omega, ?_,rfl⟩ ht.symm hl
 rw[yJ];omega
theorem N1 (Y:ev s y= .vref id sz k off) (hh:h id= .vec e sz (jI pre cells post)) (J:pre.length=k) (hc:cells[off]?=some c) (r1:c.noOwn=true) (ht:s t=c) (hl:oQ ⟨s,h⟩ late):oQ ⟨s,h⟩ ((a,t,.ld1 y)::late):=
 cn (p:=sz=sz) (v:=c) (by simp only[rd,Y,hh,pZ J.symm,hc,r1,TB]) rfl ht.symm hl
theorem R_ {b:List DV} (hx:SV.toDVs (args.map (ev s))=some b) (hs:bu P f (as.map .d) (.own (.sl e (List.replicate n .sh)) (.slice (l.map H))) (as.map .d)) (he:b=as) (F:∀ a,(H a).length=n) (hk:aD P K sos ⟨am (bl dst .any s) dst (.vec dst),am (bG dst .any h) dst (.vec e n (au (List.replicate n .sh) H l))⟩):aD P K (.p (some dst) (.f f) args::sos) ⟨s,h⟩:=
 by
  rw[oi F] at hk
  subst he
  exact Ra (j:=⟨s,h⟩) (L:=[]) (bm.refl _) hs rfl (nU hx) (xM F) hk
end
section
variable {P:Program} {s:Nat->SV} {h:Nat->Ch} {K:St->Prop} {sos:List SO} {α:Type} {H:α->List DV} {l:List α}
theorem Qg {n:Int} {x i:SX} {k:IntKind} {e:α} (hx:ev s x= .d (.slice (l.map H))) (hi:ev s i= .d (.int k n)) (F:∀ e,(H e).length=sz) (he:b4 l n=some e) (hk:aD P K sos ⟨am s dst (.d (.ptr (H e))),h⟩):aD P K (.r dst (.idx sz x i)::sos) ⟨s,h⟩:=
 Eu (l:=l) (kk:=fun _=>some ()) (r:=()) (by rw[he];rfl) hx hi F fun e' g _=>by
  rw[he] at g;cases g;exact hk
theorem LR {i:Nat} {e:α} (h:l[i]?=some e):b4 l (i:Int)=some e:=by unfold b4;simpa using h
theorem Hm {σ:St} (F:∀ a,(H a).length=n):takes σ [] (some dst) (.own (.sl e (List.replicate n .sh)) (.slice (l.map H)))=some ⟨am (bl dst .any σ.s) dst (.vec dst),am (bG dst .any σ.h) dst (.vec e n (au (List.replicate n .sh) H l))⟩:=by
 rw[oi F];exact xM F
theorem Ri {b:List DV} (hx:SV.toDVs (args.map (ev s))=some b) (hs:bu P f (as.map .d) (.own (.sl e (List.replicate n .sh)) (.slice (l.map H))) (as.map .d)) (he:b=as) (F:∀ a,(H a).length=n) (hl:oQ ⟨am (bl dst .any s) dst (.vec dst),am (bG dst .any h) dst (.vec e n (au (List.replicate n .sh) H l))⟩ late) (hk:aD P K sos ⟨am (bl dst .any s) dst (.vec dst),am (bG dst .any h) dst (.vec e n (au (List.replicate n .sh) H l))⟩):aD P K (.q dst (.f f) args late::sos) ⟨s,h⟩:=by
 subst he
 exact⟨f,b,_,_,rfl,hx,hs,rfl,Hm F,hl,hk⟩
end
attribute [push_cast] Dc
end Go.Proofs.YtgmnipfafmphaaaGreatDoor

