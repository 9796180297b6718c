/-
  My text.
-/
import Derived.Test.YteaolfcegaidpaaGreatDoorSZEngZ
namespace Go.Proofs.YteaolfcegaidpaaGreatDoor
set_option linter.unusedSimpArgs false
set_option linter.unusedVariables false
open Go.RowKit
variable {J:List SV} {L:IntKind} {a:Nat} {args:List SX} {as b:List DV} {c:SV} {cells:List SV} {dst e f id k:Nat} {late:List (Nat×Nat×wh)} {n off:Nat} {post pre:List (List SV)} {sz t:Nat} {y:SX}
def l8 (pre:List (List SV)) (cells:List SV) (post:List (List SV)):List (List SV):=pre++cells::post
theorem uN (hk:k=pre.length):(l8 pre cells post)[k]?=some cells:=by
 subst hk;unfold l8;simp
theorem H8 (hk:k=pre.length):(l8 pre cells post).set k J=l8 pre J post:=by
 subst hk;unfold l8;simp
theorem Cf:(l8 pre cells post).length=pre.length+(post.length+1):=by
 unfold l8;simp
theorem FN (id:Nat) (o:DV):jG id o (l8 pre cells post)=l8 (jG id o pre) (ee id o cells) (jG id o post):=by
 unfold l8;rw[wU];simp only[jG]
section
variable {P:Program} {D:SC} {Q:AX->St->Prop} {s:Nat->SV} {h:Nat->Ch} {K:St->Prop} {sos:List SO} {α β:Type} {H:α->List DV} {B:β->List DV} {ms ms':List cO} {l p q:List α} {x:α} {pre post:List (List SV)} {cells:List SV}
theorem D4 {W:Nat} {b:List (List SV)} {y:List β} (hj:h f= .vec W n b) (hh:h id= .vec e sz (l8 pre cells post)) (hk:k=pre.length) (hc:cells[off]?=some (.vec f)) (hr:iv b (dg ms' B y)) (hn:ms'.length=n) (I:∀ a,(B a).length=ms'.length) (A:id≠f) (hs:(ee f .any cells).set off (.own (.sl W ms') (.slice (y.map B)))=J):cS ⟨s,h⟩ ⟨eC f .any s,aD (aD (hT f .any h) id (.vec e sz (l8 (jG f .any pre) J (jG f .any post)))) f .dead⟩:=by
 subst hn hs
 have h1:cS ⟨s,h⟩ ⟨s,aD h f (.vec W ms'.length (dg ms' B y))⟩:=xd (fun _=> .inl rfl) fun j=>by
  by_cases F:j=f
  ·subst F;simp only[aD,T6,hj];exact jV hr
  ·simp only[aD,F,Tv];exact be rfl
 have r3:k=(jG f .any pre).length:=by rw[kS];exact hk
 have h2:=Fu (σ:=⟨s,aD h f (.vec W ms'.length (dg ms' B y))⟩) (id:=id) (g:=f) (p:= .v k off) (m:= .sl W ms') (d:= .slice (y.map B)) (ch:= .vec W ms'.length (dg ms' B y)) (mk:= .vec) A
  (by simp only[cL];rfl) (by intro r hr;obtain⟨a,_,rfl⟩:=Tu.1 hr;exact I a) (by simp only[aD,A,Tv,hh,uJ,uN hk,hc]) (by simp only[aD,T6])
 have e1:vn ⟨s,aD h f (.vec W ms'.length (dg ms' B y))⟩ id (.v k off) f (.sl W ms') (.slice (y.map B))=⟨eC f .any s,aD (aD (hT f .any h) id (.vec e sz (l8 (jG f .any pre) ((ee f .any cells).set off (.own (.sl W ms') (.slice (y.map B)))) (jG f .any post)))) f .dead⟩:=by
  have o:GE (.own (.sl W ms') (.slice (y.map B))) (A3 f .any ((aD h f (.vec W ms'.length (dg ms' B y))) id)) (.v k off)= .vec e sz (l8 (jG f .any pre) ((ee f .any cells).set off (.own (.sl W ms') (.slice (y.map B)))) (jG f .any post)):=by
   rw[show aD h f (.vec W ms'.length (dg ms' B y)) id=h id from bv _ _ _ _ A,hh]
   simp only[A3,FN,GE,uN r3,H8 r3]
  unfold vn
  dsimp only
  rw[o]
  congr 1
  funext j
  by_cases c:j=f
  ·subst c;simp only[aD,T6]
  ·by_cases G:j=id
   ·subst G;simp only[aD,c,Tv,T6]
   ·simp only[aD,c,G,Tv,hT]
 rw[e1] at h2
 exact h1.trans h2
end
def Bi {α:Type} (ms u:List cO) (H:α->List DV) (l:List α) (i:Nat):List (List SV):=dg ms H (l.take i)++dg u H (l.drop i)
section
variable {α:Type} {ms u:List cO} {H:α->List DV} {l:List α} {x:α} {i:Nat}
theorem FO:Bi ms u H l 0=dg u H l:=rfl
theorem H9:Bi ms u H l l.length=dg ms H l:=by unfold Bi;simp[dg]
theorem FP (h:l[i]?=some x):Bi ms u H l i=l8 (dg ms H (l.take i)) (d7 u (H x)) (dg u H (l.drop (i+1))):=by
 obtain⟨h9,R⟩:=SY.1 h
 unfold Bi l8
 rw[Uf h9,R];rfl
theorem FQ (h:l[i]?=some x):l8 (dg ms H (l.take i)) (d7 ms (H x)) (dg u H (l.drop (i+1)))=Bi ms u H l (i+1):=by
 obtain⟨h9,R⟩:=SY.1 h
 unfold Bi l8
 rw[List.take_succ_eq_append_getElem h9,R,GW,S4];rfl
end
section
variable {P:Program} {s:Nat->SV} {h:Nat->Ch} {K:St->Prop} {sos:List SO} {α:Type} {H:α->List DV} {ms:List cO} {p l:List α} {cells:List SV} {post:List (List SV)}
theorem MZ {i:SX} {n:Int} (hx:ev s y= .vec id) (hh:h id= .vec e sz (l8 pre cells post)) (hi:ev s i= .d (.int L n)) (o:pre.length=k) (hn:n=(k:Int)) (hk:a6 P K sos ⟨aD s dst (.vref id sz k 0),h⟩):a6 P K (.r dst (.idx sz y i)::sos) ⟨s,h⟩:=by
 subst hn o
 refine fi (p:=(0:Int)<=(pre.length:Int)/\(pre.length:Int)<((l8 pre cells post).length:Nat)/\sz=sz) (v:= .vref id sz pre.length 0) (by simp only[rd,hi,hx,hh];rfl) ⟨by omega, ?_,rfl⟩ hk
 rw[Cf];omega
theorem Rx (hp:ev s y= .vref id sz k off) (hh:h id= .vec e sz (l8 pre cells post)) (o:pre.length=k) (hc:cells[off]?=some c) (r6:c.noOwn=true) (hk:a6 P K sos ⟨aD s dst c,h⟩):a6 P K (.r dst (.ld1 y)::sos) ⟨s,h⟩:=
 fi (p:=sz=sz) (v:=c) (by simp only[rd,hp,hh,uN o.symm,hc,r6,T6]) rfl hk
theorem Qw {cs:List SV} (hp:ev s y= .vref id sz k off) (hh:h id= .vec e sz (l8 pre cells post)) (o:pre.length=k) (hc:(cells.drop off).take n=cs) (r6:SV.noOwns cs=true) (hl:off+n<=cells.length) (hk:a6 P K sos ⟨aD s dst (.agg cs),h⟩):a6 P K (.r dst (.ldA n y)::sos) ⟨s,h⟩:=
 fi (p:=sz=sz/\off+n<=cells.length) (v:= .agg cs) (by simp only[rd,hp,hh,uN o.symm,hc,r6,T6]) ⟨rfl,hl⟩ hk
theorem M1 {v0:SV} {v:SX} (hp:ev s y= .vref id sz k off) (hv:(ev s v).cells?=some [v0]) (hh:h id= .vec e sz (l8 pre cells post)) (o:pre.length=k) (ho:off<cells.length) (hs:cells.set off v0=J) (hl:AL ⟨s,aD h id (.vec e sz (l8 pre J post))⟩ late) (hk:a6 P K sos ⟨s,aD h id (.vec e sz (l8 pre J post))⟩):a6 P K (.x 0 (.st 1 y v) late::sos) ⟨s,h⟩:=by
 subst hs;rw[<-Ib ho] at hk hl
 exact N4 (p:=sz=sz/\[v0].length=1/\off+1<=cells.length) (by simp only[wr,hp,hh,hv,uN o.symm,H8 o.symm]) ⟨rfl,rfl,ho⟩ hl hk
theorem M2 {i:SX} {n:Int} (hx:ev s y= .vec id) (hh:h id= .vec e sz (l8 pre cells post)) (hi:ev s i= .d (.int L n)) (o:pre.length=k) (hn:n=(k:Int)) (Y:s t= .vref id sz k 0) (hl:AL ⟨s,h⟩ late):AL ⟨s,h⟩ ((a,t,.idx sz y i)::late):=by
 subst hn o
 refine pP (p:=(0:Int)<=(pre.length:Int)/\(pre.length:Int)<((l8 pre cells post).length:Nat)/\sz=sz) (v:= .vref id sz pre.length 0) (by simp only[rd,hi,hx,hh];rfl) ⟨by omega, ?_,rfl⟩ Y.symm hl
 rw[Cf];omega
theorem OK (hp:ev s y= .vref id sz k off) (hh:h id= .vec e sz (l8 pre cells post)) (o:pre.length=k) (hc:cells[off]?=some c) (r6:c.noOwn=true) (Y:s t=c) (hl:AL ⟨s,h⟩ late):AL ⟨s,h⟩ ((a,t,.ld1 y)::late):=
 pP (p:=sz=sz) (v:=c) (by simp only[rd,hp,hh,uN o.symm,hc,r6,T6]) rfl Y.symm hl
theorem Sn (hx:SV.toDVs (args.map (ev s))=some b) (hs:bB P f (as.map .d) (.own (.sl e (List.replicate n .sh)) (.slice (l.map H))) (as.map .d)) (J:b=as) (I:∀ a,(H a).length=n) (hk:a6 P K sos ⟨aD (eC dst .any s) dst (.vec dst),aD (hT dst .any h) dst (.vec e n (dg (List.replicate n .sh) H l))⟩):a6 P K (.p (some dst) (.f f) args::sos) ⟨s,h⟩:=
 by
  rw[Ia I] at hk
  subst J
  exact Rk (h5:=⟨s,h⟩) (L:=[]) (cS.refl _) hs rfl (rU hx) (FS I) hk
end
section
variable {P:Program} {s:Nat->SV} {h:Nat->Ch} {K:St->Prop} {sos:List SO} {α:Type} {H:α->List DV} {l:List α}
theorem Qx {n:Int} {x i:SX} {k:IntKind} {e:α} (hx:ev s x= .d (.slice (l.map H))) (hi:ev s i= .d (.int k n)) (I:∀ e,(H e).length=sz) (J:cm l n=some e) (hk:a6 P K sos ⟨aD s dst (.d (.ptr (H e))),h⟩):a6 P K (.r dst (.idx sz x i)::sos) ⟨s,h⟩:=
 OQ (l:=l) (kk:=fun _=>some ()) (r:=()) (by rw[J];rfl) hx hi I fun W y _=>by
  rw[J] at y;cases y;exact hk
theorem M3 {i:Nat} {e:α} (h:l[i]?=some e):cm l (i:Int)=some e:=by unfold cm;simpa using h
theorem Jn {σ:St} (I:∀ a,(H a).length=n):takes σ [] (some dst) (.own (.sl e (List.replicate n .sh)) (.slice (l.map H)))=some ⟨aD (eC dst .any σ.s) dst (.vec dst),aD (hT dst .any σ.h) dst (.vec e n (dg (List.replicate n .sh) H l))⟩:=by
 rw[Ia I];exact FS I
theorem Ry (hx:SV.toDVs (args.map (ev s))=some b) (hs:bB P f (as.map .d) (.own (.sl e (List.replicate n .sh)) (.slice (l.map H))) (as.map .d)) (J:b=as) (I:∀ a,(H a).length=n) (hl:AL ⟨aD (eC dst .any s) dst (.vec dst),aD (hT dst .any h) dst (.vec e n (dg (List.replicate n .sh) H l))⟩ late) (hk:a6 P K sos ⟨aD (eC dst .any s) dst (.vec dst),aD (hT dst .any h) dst (.vec e n (dg (List.replicate n .sh) H l))⟩):a6 P K (.q dst (.f f) args late::sos) ⟨s,h⟩:=by
 subst J
 exact⟨f,_,_,_,[],_,rfl,hs,rfl,Dz hx,Jn I,hl,hk⟩
end
attribute [push_cast] FN
