/-
  My text.
-/
import Derived.Test.YtgmnipfafmphaaaGreatDoorSZEngZ
namespace Go.Proofs.YtgmnipfafmphaaaGreatDoor
set_option linter.unusedSimpArgs false
set_option linter.unusedVariables false
open Go.RowKit
def ij (pre:List (List SV)) (cells:List SV) (post:List (List SV)):List (List SV):=pre++cells::post
theorem ng {k:Nat} {pre post:List (List SV)} {cells:List SV} (hk:k=pre.length):(ij pre cells post)[k]?=some cells:=by
 subst hk;unfold ij;simp
theorem A5 {k:Nat} {pre post:List (List SV)} {cells c':List SV} (hk:k=pre.length):(ij pre cells post).set k c'=ij pre c' post:=by
 subst hk;unfold ij;simp
theorem uk {pre post:List (List SV)} {cells:List SV}:(ij pre cells post).length=pre.length+(post.length+1):=by
 unfold ij;simp
theorem yv (id:Nat) (dv:DV) {pre post:List (List SV)} {cells:List SV}:cF id dv (ij pre cells post)=ij (cF id dv pre) (b8 id dv cells) (cF id dv post):=by
 unfold ij;rw[kE];simp only[cF]
section
variable {P:Program} {x0:SC} {Q:AX->St->Prop} {s:Nat->SV} {h:Nat->Ch} {K:St->Prop} {sos:List SO} {α β:Type} {row:α->List DV} {row':β->List DV} {ms ms':List aL} {l p q:List α} {x:α} {pre post:List (List SV)} {cells:List SV}
theorem ww {k id cid e sz off e' n:Nat} {rowsB:List (List SV)} {c':List SV} {y:List β} (hj:h cid= .vec e' n rowsB) (hh:h id= .vec e sz (ij pre cells post)) (hk:k=pre.length) (hc:cells[off]?=some (.vec cid)) (hr:cH rowsB (aw ms' row' y)) (hn:ms'.length=n)
  (hsz:∀ a,(row' a).length=ms'.length) (hne:id≠cid) (hs:(b8 cid .any cells).set off (.own (.sl e' ms') (.slice (y.map row')))=c'):ce ⟨s,h⟩ ⟨ca cid .any s,ak (ak (ct cid .any h) id (.vec e sz (ij (cF cid .any pre) c' (cF cid .any post)))) cid .dead⟩:=by
 subst hn hs
 have h1:ce ⟨s,h⟩ ⟨s,ak h cid (.vec e' ms'.length (aw ms' row' y))⟩:=lL (fun _=> .inl rfl) fun j=>by
  by_cases hj':j=cid
  ·subst hj';simp only[ak,LX,hj];exact gU hr
  ·simp only[ak,hj',LI];exact bk rfl
 have hk':k=(cF cid .any pre).length:=by rw[gM];exact hk
 have h2:=m8 (σ:=⟨s,ak h cid (.vec e' ms'.length (aw ms' row' y))⟩) (id:=id) (id':=cid) (p:= .v k off) (m:= .sl e' ms') (d:= .slice (y.map row')) (ch:= .vec e' ms'.length (aw ms' row' y)) (mk:= .vec) hne
  (by simp only[bX];rfl) (by intro r hr;obtain⟨a,_,rfl⟩:=Lt.1 hr;exact hsz a) (by simp only[ak,hne,LI,hh,jw,ng hk,hc]) (by simp only[ak,LX])
 have e1:g_ ⟨s,ak h cid (.vec e' ms'.length (aw ms' row' y))⟩ id (.v k off) cid (.sl e' ms') (.slice (y.map row'))=⟨ca cid .any s,ak (ak (ct cid .any h) id (.vec e sz (ij (cF cid .any pre) ((b8 cid .any cells).set off (.own (.sl e' ms') (.slice (y.map row')))) (cF cid .any post)))) cid .dead⟩:=by
  have hset:qW (.own (.sl e' ms') (.slice (y.map row'))) (jf cid .any ((ak h cid (.vec e' ms'.length (aw ms' row' y))) id)) (.v k off)= .vec e sz (ij (cF cid .any pre) ((b8 cid .any cells).set off (.own (.sl e' ms') (.slice (y.map row')))) (cF cid .any post)):=by
   rw[show ak h cid (.vec e' ms'.length (aw ms' row' y)) id=h id from aP _ _ _ _ hne,hh]
   simp only[jf,yv,qW,ng hk',A5 hk']
  unfold g_
  dsimp only
  rw[hset]
  congr 1
  funext j
  by_cases hj1:j=cid
  ·subst hj1;simp only[ak,LX]
  ·by_cases hj2:j=id
   ·subst hj2;simp only[ak,hj1,LI,LX]
   ·simp only[ak,hj1,hj2,LI,ct]
 rw[e1] at h2
 exact h1.trans h2
end
def ov {α:Type} (ms ms0:List aL) (row:α->List DV) (l:List α) (i:Nat):List (List SV):=aw ms row (l.take i)++aw ms0 row (l.drop i)
section
variable {α:Type} {ms ms0:List aL} {row:α->List DV} {l:List α} {x:α} {i:Nat}
theorem yw:ov ms ms0 row l 0=aw ms0 row l:=rfl
theorem A6:ov ms ms0 row l l.length=aw ms row l:=by unfold ov;simp[aw]
theorem yx (h:l[i]?=some x):ov ms ms0 row l i=ij (aw ms row (l.take i)) (bW ms0 (row x)) (aw ms0 row (l.drop (i+1))):=by
 obtain⟨hlt,hget⟩:=K5.1 h
 unfold ov ij
 rw[L6 hlt,hget];rfl
theorem yy (h:l[i]?=some x):ij (aw ms row (l.take i)) (bW ms (row x)) (aw ms0 row (l.drop (i+1)))=ov ms ms0 row l (i+1):=by
 obtain⟨hlt,hget⟩:=K5.1 h
 unfold ov ij
 rw[List.take_succ_eq_append_getElem hlt,hget,sc,Lc];rfl
theorem A7:(ov ms ms0 row l i).length=l.length:=by unfold ov;simp[cX];omega
theorem DJ (id:Nat) (dv:DV):cF id dv (ov ms ms0 row l i)=ov ms ms0 row l i:=by
 unfold ov;rw[kE,fC,fC]
end
section
variable {P:Program} {s:Nat->SV} {h:Nat->Ch} {K:St->Prop} {sos:List SO} {α:Type} {row:α->List DV} {ms:List aL} {p l:List α} {cells:List SV} {post:List (List SV)}
theorem FA {id e sz dst k:Nat} {pre:List (List SV)} {y i:SX} {ki:IntKind} {n:Int} (hx:ev s y= .vec id) (hh:h id= .vec e sz (ij pre cells post)) (hi:ev s i= .d (.int ki n)) (hpl:pre.length=k) (hn:n=(k:Int))
  (hk:aA P K sos ⟨ak s dst (.vref id sz k 0),h⟩):aA P K (.r dst (.idx sz y i)::sos) ⟨s,h⟩:=by
 subst hn hpl
 refine j1 (p:=(0:Int)<=(pre.length:Int)/\(pre.length:Int)<((ij pre cells post).length:Nat)/\sz=sz) (v:= .vref id sz pre.length 0) (by simp only[rd,hi,hx,hh];rfl) ⟨by omega, ?_,rfl⟩ hk
 rw[uk];omega
theorem JT {id e sz off dst k:Nat} {pre:List (List SV)} {c:SV} {y:SX} (hp:ev s y= .vref id sz k off) (hh:h id= .vec e sz (ij pre cells post)) (hpl:pre.length=k) (hc:cells[off]?=some c) (hno:c.noOwn=true)
  (hk:aA P K sos ⟨ak s dst c,h⟩):aA P K (.r dst (.ld1 y)::sos) ⟨s,h⟩:=
 j1 (p:=sz=sz) (v:=c) (by simp only[rd,hp,hh,ng hpl.symm,hc,hno,LX]) rfl hk
theorem I4 {id e sz off n dst k:Nat} {pre:List (List SV)} {cs:List SV} {y:SX} (hp:ev s y= .vref id sz k off) (hh:h id= .vec e sz (ij pre cells post)) (hpl:pre.length=k) (hc:(cells.drop off).take n=cs) (hno:SV.noOwns cs=true) (hl:off+n<=cells.length)
  (hk:aA P K sos ⟨ak s dst (.agg cs),h⟩):aA P K (.r dst (.ldA n y)::sos) ⟨s,h⟩:=
 j1 (p:=sz=sz/\off+n<=cells.length) (v:= .agg cs) (by simp only[rd,hp,hh,ng hpl.symm,hc,hno,LX]) ⟨rfl,hl⟩ hk
theorem FB {id e sz off k:Nat} {pre:List (List SV)} {v0:SV} {c':List SV} {y v:SX} {late:List (Nat×Nat×l_)} (hp:ev s y= .vref id sz k off) (hv:(ev s v).cells?=some [v0]) (hh:h id= .vec e sz (ij pre cells post)) (hpl:pre.length=k) (ho:off<cells.length) (hs:cells.set off v0=c')
  (hl:p7 ⟨s,ak h id (.vec e sz (ij pre c' post))⟩ late) (hk:aA P K sos ⟨s,ak h id (.vec e sz (ij pre c' post))⟩):aA P K (.x 0 (.st 1 y v) late::sos) ⟨s,h⟩:=by
 subst hs;rw[<-A_ ho] at hk hl
 exact GA (p:=sz=sz/\[v0].length=1/\off+1<=cells.length) (by simp only[wr,hp,hh,hv,ng hpl.symm,A5 hpl.symm]) ⟨rfl,rfl,ho⟩ hl hk
theorem FC {id e sz a t k:Nat} {pre:List (List SV)} {y i:SX} {ki:IntKind} {n:Int} {late:List (Nat×Nat×l_)} (hx:ev s y= .vec id) (hh:h id= .vec e sz (ij pre cells post)) (hi:ev s i= .d (.int ki n)) (hpl:pre.length=k) (hn:n=(k:Int)) (ht:s t= .vref id sz k 0)
  (hl:p7 ⟨s,h⟩ late):p7 ⟨s,h⟩ ((a,t,.idx sz y i)::late):=by
 subst hn hpl
 refine fc (p:=(0:Int)<=(pre.length:Int)/\(pre.length:Int)<((ij pre cells post).length:Nat)/\sz=sz) (v:= .vref id sz pre.length 0) (by simp only[rd,hi,hx,hh];rfl) ⟨by omega, ?_,rfl⟩ ht.symm hl
 rw[uk];omega
theorem Hq {id e sz off a t k:Nat} {pre:List (List SV)} {c:SV} {y:SX} {late:List (Nat×Nat×l_)} (hp:ev s y= .vref id sz k off) (hh:h id= .vec e sz (ij pre cells post)) (hpl:pre.length=k) (hc:cells[off]?=some c) (hno:c.noOwn=true) (ht:s t=c)
  (hl:p7 ⟨s,h⟩ late):p7 ⟨s,h⟩ ((a,t,.ld1 y)::late):=
 fc (p:=sz=sz) (v:=c) (by simp only[rd,hp,hh,ng hpl.symm,hc,hno,LX]) rfl ht.symm hl
theorem Kw {dst f e n:Nat} {args:List SX} {as0 as:List DV} (hx:SV.toDVs (args.map (ev s))=some as0) (hs:bI P f (as.map .d) (.own (.sl e (List.replicate n .sh)) (.slice (l.map row))) (as.map .d)) (he:as0=as) (hsz:∀ a,(row a).length=n)
  (hk:aA P K sos ⟨ak (ca dst .any s) dst (.vec dst),ak (ct dst .any h) dst (.vec e n (aw (List.replicate n .sh) row l))⟩):aA P K (.p (some dst) (.f f) args::sos) ⟨s,h⟩:=
 by
  rw[wD hsz] at hk
  subst he
  exact JL (σ1:=⟨s,h⟩) (L:=[]) (ce.refl _) hs rfl (ls hx) (tu hsz) hk
end
section
variable {P:Program} {s:Nat->SV} {h:Nat->Ch} {K:St->Prop} {sos:List SO} {α:Type} {row:α->List DV} {l:List α}
theorem I5 {sz:Nat} {n:Int} {x i:SX} {k:IntKind} {dst:Nat} {e:α} (hx:ev s x= .d (.slice (l.map row))) (hi:ev s i= .d (.int k n)) (hsz:∀ e,(row e).length=sz) (he:cO l n=some e)
  (hk:aA P K sos ⟨ak s dst (.d (.ptr (row e))),h⟩):aA P K (.r dst (.idx sz x i)::sos) ⟨s,h⟩:=
 CS (l:=l) (kk:=fun _=>some ()) (r:=()) (by rw[he];rfl) hx hi hsz fun e' he' _=>by
  rw[he] at he';cases he';exact hk
theorem FD {i:Nat} {e:α} (h:l[i]?=some e):cO l (i:Int)=some e:=by unfold cO;simpa using h
theorem B_ {σ:St} {dst e n:Nat} (hsz:∀ a,(row a).length=n):takes σ [] (some dst) (.own (.sl e (List.replicate n .sh)) (.slice (l.map row)))=some ⟨ak (ca dst .any σ.s) dst (.vec dst),ak (ct dst .any σ.h) dst (.vec e n (aw (List.replicate n .sh) row l))⟩:=by
 rw[wD hsz];exact tu hsz
theorem JU {dst f e n:Nat} {args:List SX} {as0 as:List DV} {late:List (Nat×Nat×l_)} (hx:SV.toDVs (args.map (ev s))=some as0) (hs:bI P f (as.map .d) (.own (.sl e (List.replicate n .sh)) (.slice (l.map row))) (as.map .d)) (he:as0=as) (hsz:∀ a,(row a).length=n)
  (hl:p7 ⟨ak (ca dst .any s) dst (.vec dst),ak (ct dst .any h) dst (.vec e n (aw (List.replicate n .sh) row l))⟩ late)
  (hk:aA P K sos ⟨ak (ca dst .any s) dst (.vec dst),ak (ct dst .any h) dst (.vec e n (aw (List.replicate n .sh) row l))⟩):aA P K (.q dst (.f f) args late::sos) ⟨s,h⟩:=by
 subst he
 exact⟨f,as0,_,_,rfl,hx,hs,rfl,B_ hsz,hl,hk⟩
end
attribute [push_cast] yv DJ A7
end Go.Proofs.YtgmnipfafmphaaaGreatDoor

