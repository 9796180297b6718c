/-
  My text.
-/
import Derived.Test.YtgmnipfafmphaaaGreatDoorSZEngY
namespace Go.Proofs.YtgmnipfafmphaaaGreatDoor
set_option linter.unusedSimpArgs false
set_option linter.unusedVariables false
open Go.RowKit
section
variable {P:Program} {s:Nat->SV} {h:Nat->Ch} {K:St->Prop} {sos:List SO} {α:Type} {row:α->List DV}
theorem tu {σ:St} {dst e n:Nat} {l:List α} (hsz:∀ a,(row a).length=n):takes σ [] (some dst) (.own (.sl e (List.replicate n .sh)) (.slice (l.map row)))=some ⟨ak (ca dst .any σ.s) dst (.vec dst),ak (ct dst .any σ.h) dst (.vec e n (bH row l))⟩:=by
 simp only[takes,SV.nOwn,SV.own1,bX,Ll,lg hsz,SV.plug,gG]
 rfl
theorem JX {Y R:Type} {r:R} {a:Option Y} {k:Y->Option R} {dst f e n:Nat} {args:List SX} {as0 as:List DV} {l:Y->List α}
  (hm:a.bind k=some r) (hx:SV.toDVs (args.map (ev s))=some as0)
  (hs:∀ y,a=some y->bI P f (as.map .d) (.own (.sl e (List.replicate n .sh)) (.slice ((l y).map row))) (as.map .d)) (he:as0=as) (hsz:∀ a,(row a).length=n)
  (hk:∀ y,k y=some r->aA P K sos ⟨ak (ca dst .any s) dst (.vec dst),ak (ct dst .any h) dst (.vec e n (bH row (l y)))⟩):aA P K (.p (some dst) (.f f) args::sos) ⟨s,h⟩:=by
 subst he
 cases hy:a with
 |none=>rw[hy] at hm;cases hm
 |some y=>
  rw[hy] at hm
  exact JL (σ1:=⟨s,h⟩) (L:=[]) (ce.refl _) (hs y hy) rfl (ls hx) (tu hsz) (hk y hm)
theorem CS {R:Type} {r:R} {l:List α} {sz:Nat} {n:Int} {x i:SX} {k:IntKind} {dst:Nat} {kk:α->Option R} (hm:(cO l n).bind kk=some r) (hx:ev s x= .d (.slice (l.map row))) (hi:ev s i= .d (.int k n)) (hsz:∀ e,(row e).length=sz)
  (hk:∀ e,cO l n=some e->kk e=some r->aA P K sos ⟨ak s dst (.d (.ptr (row e))),h⟩):aA P K (.r dst (.idx sz x i)::sos) ⟨s,h⟩:=by
 cases he:cO l n with
 |none=>rw[he] at hm;cases hm
 |some e=>
  rw[he] at hm
  obtain⟨h1,h2⟩:=zD (h:=h) hx hi hsz he
  exact j1 h1 h2 (hk e he hm)
theorem sb {l:List α} {sz a t:Nat} {n:Int} {x i:SX} {k:IntKind} {e:α} {late:List (Nat×Nat×l_)} (hx:ev s x= .d (.slice (l.map row))) (hi:ev s i= .d (.int k n)) (he:cO l n=some e) (hsz:∀ e,(row e).length=sz) (ht:s t= .d (.ptr (row e)))
  (hl:p7 ⟨s,h⟩ late):p7 ⟨s,h⟩ ((a,t,.idx sz x i)::late):=by
 obtain⟨h1,h2⟩:=zD (h:=h) hx hi hsz he
 exact fc h1 h2 ht.symm hl
end
def aw {α:Type} (ms:List aL) (row:α->List DV) (l:List α):List (List SV):=(l.map row).map (bW ms)
section
variable {α:Type} {ms:List aL} {row:α->List DV} {l:List α}
theorem cX:(aw ms row l).length=l.length:=by simp[aw]
theorem sc {l2:List α}:aw ms row (l++l2)=aw ms row l++aw ms row l2:=by simp[aw]
theorem yE {i:Nat} {x:α} (h:l[i]?=some x):(aw ms row l)[i]?=some (bW ms (row x)):=by simp[aw,LD,h]
theorem DM {i:Nat} {x:α}:aw ms row (l.set i x)=(aw ms row l).set i (bW ms (row x)):=by simp[aw,List.map_set]
theorem wD {n:Nat} (hsz:∀ a,(row a).length=n):aw (List.replicate n .sh) row l=bH row l:=lg hsz l
theorem fC (id:Nat) (dv:DV):∀ (l:List α),cF id dv (aw ms row l)=aw ms row l
 |[]=>rfl
 |x::l=>by
  have ih:=fC id dv l
  unfold aw at ih⊢
  simp only[Lh,cF,pZ,ih]
end
section
variable {P:Program} {s:Nat->SV} {h:Nat->Ch} {K:St->Prop} {sos:List SO} {α β:Type} {row:α->List DV} {row':β->List DV} {ms ms':List aL} {l:List α} {l':List β} {x:α}
theorem CT {R:Type} {r:R} {sz e id:Nat} {n:Int} {y i:SX} {k:IntKind} {dst:Nat} {rows:List (List SV)} {kk:α->Option R} (hm:(cO l n).bind kk=some r) (hx:ev s y= .vec id) (hh:h id= .vec e sz rows) (hl:rows.length=l.length) (hi:ev s i= .d (.int k n))
  (hk:∀ a,cO l n=some a->kk a=some r->aA P K sos ⟨ak s dst (.vref id sz n.toNat 0),h⟩):aA P K (.r dst (.idx sz y i)::sos) ⟨s,h⟩:=by
 cases he:cO l n with
 |none=>rw[he] at hm;cases hm
 |some a=>
  rw[he] at hm
  have he':=he
  unfold cO at he'
  split at he'
  ·rename_i h0
   obtain⟨hlt,_⟩:=K5.1 he'
   refine j1 (p:=0<=n/\n<rows.length/\sz=sz) (v:= .vref id sz n.toNat 0) ?_ ⟨h0,by omega,rfl⟩ (hk a he hm)
   simp only[rd,hi,hx,hh]
  ·cases he'
end
section
variable {P:Program} {x0:SC} {Q:AX->St->Prop} {s:Nat->SV} {h:Nat->Ch} {K:St->Prop} {sos:List SO} {α β:Type} {row:α->List DV} {row':β->List DV} {ms ms':List aL} {l:List α}
theorem A_ {cs:List SV} {off:Nat} {v:SV} (ho:off<cs.length):splice cs off [v]=cs.set off v:=by
 unfold splice
 refine List.ext_getElem? fun j=> ?_
 simp only[K7,Lf,LF,Lc,List.getElem?_append,Lb,LQ,LJ,List.getElem?_set]
 have h3:min off cs.length=off:=by omega
 by_cases h1:j<off
 ·have:¬ off=j:=by omega
  simp[this,h1]
  omega
 ·by_cases h2:off=j
  ·subst h2
   simp[h3,ho]
  ·have h4:¬ j - off<1:=by omega
   simp only[h3,h1,LI,h2,h4,Mc]
   have h5:off+1+(j - off - 1)=j:=by omega
   simp only[h5]
end
section
variable {P:Program} {s:Nat->SV} {h:Nat->Ch} {K:St->Prop} {sos:List SO} {α β:Type} {row:α->List DV} {ms:List aL} {l l2:List α} {x:α}
theorem wE {n:Int} (h:cO l n=some x):l[n.toNat]?=some x:=by
 unfold cO at h;split at h
 ·exact h
 ·cases h
theorem kb:cH (aw ms row l) (aw ms row l):=cH.rfl
theorem I8:cH [] (aw ms row ([]:List α)):=cH.rfl
theorem Hw {R:Type} {r:R} {kk:Option R} {rows2:List (List SV)} {k dst e sz id:Nat} {y z:SX} (hm:mi (mB (l.length+k)) kk=some r) (hx:ev s y= .vec id) (hh:h id= .vec e sz (aw ms row l)) (hy:qt (ev s z)=some rows2) (hl:rows2.length=k) (hall:∀ r∈rows2,r.length=sz)
  (hk:kk=some r->aA P K sos ⟨ak (ca id .any s) dst (.vec id),ak (ct id .any h) id (.vec e sz (aw ms row l++cF id .any rows2))⟩):aA P K (.w dst (.app e sz y z)::sos) ⟨s,h⟩:=by
 cases hlo:mB (l.length+k) with
 |none=>rw[hlo] at hm;cases hm
 |some u=>
  rw[hlo] at hm
  have hlen:=tl.1 hlo
  refine zg (p:=e=e/\sz=sz/\(∀ r∈rows2,r.length=sz)/\(aw ms row l).length+rows2.length<=137438953472) ?_ ⟨rfl,rfl,hall,by rw[cX,hl];exact hlen⟩ (hk hm)
  have e1:cF id .any (aw ms row l++rows2)=aw ms row l++cF id .any rows2:=by rw[kE,fC]
  simp only[wr,hx,hy,hh,cm,St.swap,e1]
theorem Im {id e sz i off dst:Nat} {R:List (List SV)} {cells:List SV} {c:SV} {y:SX} (hp:ev s y= .vref id sz i off) (hh:h id= .vec e sz (R.set i cells)) (hi:i<R.length) (hc:cells[off]?=some c) (hno:c.noOwn=true)
  (hk:aA P K sos ⟨ak s dst c,h⟩):aA P K (.r dst (.ld1 y)::sos) ⟨s,h⟩:=by
 have hg:(R.set i cells)[i]?=some cells:=MU hi
 refine j1 (p:=sz=sz) (v:=c) ?_ rfl hk
 simp only[rd,hp,hh,hg,hc,hno,LX]
theorem vf {n:Int} (h:cO l n=some x):n.toNat<l.length:=(K5.1 (wE h)).1
theorem re (hp:aL.plains ms=true) (hl:∀ x,(row x).length=ms.length):SV.frzR (aw ms row l)=some (l.map row):=yf hp (fun r hr=>by obtain⟨x,_,rfl⟩:=Lt.1 hr;exact hl x)
theorem yF:∀ n:Nat,aL.plains (List.replicate n .sh)=true
 |0=>rfl
 |n+1=>by rw[List.replicate_succ];simp only[aL.plains,aL.plain,yF n,M1]
end
theorem Ba {β:Type} {row:β->List DV} {e:Nat} {ms:List aL} {l:List (List β)} (hp:aL.plains ms=true):SV.frzR (aw [.sl e ms] (gf row) l)=some (l.map (gf row)):=re (by simp only[aL.plains,aL.plain,hp,M1]) (fun _=>rfl)
theorem yG {s:Nat->SV} {h:Nat->Ch} {α:Type} {e sz:Nat} {rows ys:List (List SV)} (id:Nat) (ms:List aL) (row:α->List DV) {l:List α} (hh:h id= .vec e sz (rows++ys)) (hr:cH (rows++ys) (aw ms row l)):ce ⟨s,h⟩ ⟨s,ak h id (.vec e sz (aw ms row l))⟩:=lL (fun _=> .inl rfl) fun j=>by
  by_cases hj:j=id
  ·subst hj;simp only[ak,LX,hh];exact gU hr
  ·simp only[ak,hj,LI];exact bk rfl
def Hx (N:Nat) (as:List DV):Nat->SV:=fun j=>if j<N then(match as[j]? with|some d=> .d d|none=> .d .any) else match as[j - N]? with|some d=> .d d|none=> .d .any
theorem zI {h:Nat->Ch} {ys rs:List SV} {ids:List Nat} (hr:jh h ys rs ids):∀ {gs:List SV} {as:List DV},SV.toDVs gs=some as->jh h (gs++ys) (as.map .d++rs) ids
 |[],as,hd=>by simp only[SV.toDVs,K0] at hd;subst hd;exact hr
 |g::gs,as,hd=>by
  unfold SV.toDVs at hd
  split at hd
  ·rename_i d ds' h1 h2
   simp only[K0] at hd;subst hd
   exact .data h1 (zI hr h2)
  ·cases hd
theorem FL {R:Type} {r r0:R} {σ:St} {N n:Nat} {q:RV} {ms:List aL} {row:R->List DV} {as:List DV} {gs cs cs':List SV} {ids:List Nat} {s1:Nat->SV} {h1:Nat->Ch} (hm:some r0=some r) (hcl:ce σ ⟨s1,h1⟩) (hq:DB ⟨s1,h1⟩ [q]=some [.agg cs]) (hg:fA N ⟨s1,h1⟩ n=gs) (hgs:SV.toDVs gs=some as)
  (hr:jh h1 cs cs' ids) (hG:cs'=bW ms (row r0)):vY N n [q] (.agg (bW ms (row r))) (as.map .d) .ret σ:=by
 cases hm
 subst hG
 refine⟨⟨s1,h1⟩,hcl,[.agg cs],[.agg (bW ms (row r))],ids,hq,rfl,rfl, ?_⟩
 rw[hg]
 refine zI ?_ hgs
 have:=jh.agg (h:=h1) hr (fun i _=>LZ) jh.nil
 simpa using this
theorem CU {α:Type} {row:α->List DV} {ms:List aL} {h:Nat->Ch} {id e n:Nat} {l:List α} {xs rs:List SV} {ids:List Nat} (hh:h id= .vec e n (aw ms row l)) (hn:ms.length=n) (hsz:∀ a,(row a).length=ms.length) (hi:id∉ids) (hl:jh h xs rs ids):jh h (.vec id::xs) (.own (.sl e ms) (.slice (l.map row))::rs) (id::ids):=by
 subst hn
 exact .own (ch:= .vec e ms.length (aw ms row l)) (mk:= .vec) rfl (by intro r hr;obtain⟨a,_,rfl⟩:=Lt.1 hr;exact hsz a) hh hi hl
theorem ul {P:Program} {f N k:Nat} {fn:Func} {x:SC} {qs:List RV} {as:List DV} {res:SV} {outs:List SV} (hf:P.funcs[f]?=some fn) (hfit:fits P f fn x qs k=true) (hN:fn.ntmps=N) (hk:as.length=k) (hol:outs.length=k)
  (h:AW P x (vY N k qs res outs) ⟨Hx N as,fun _=> .dead⟩):bI P f (as.map .d) res outs:=by
 subst hN hk
 have hlen:(as.map SV.d).length=as.length:=by simp
 refine qZ (x:=x) (qs:=qs) hf (by rw[hlen];exact hfit) ?_ (by rw[hlen];exact hol) ?_
 ·rw[Lj]
  intro y hy
  obtain⟨d,_,rfl⟩:=Lt.1 hy
  rfl
 ·rw[hlen]
  have e1:vX fn.ntmps (as.map .d)=Hx fn.ntmps as:=by
   funext j
   unfold vX Hx
   by_cases hlt:j<fn.ntmps
   ·simp only[hlt,LX,LD]
    cases as[j]?<;>simp[qh]
   ·simp only[hlt,LI,LD]
    cases as[j - fn.ntmps]?<;>simp[qh]
  have e2:xB (as.map .d)=fun _=> .dead:=by
   funext j
   unfold xB
   simp only[LD]
   cases as[j]?<;>simp[xA]
  rw[e1,e2];exact h
section
variable {P:Program} {Q:AX->St->Prop} {x0:SC} {s:Nat->SV} {h:Nat->Ch} {α:Type} {row:α->List DV}
theorem Cb {id cid off n e:Nat} {cs cs':List SV} {ms:List aL} {l:List α} (hh:h id= .box cs) (hc:cs[off]?=some (.own (.sl e ms) (.slice (l.map row)))) (hne:id≠cid) (hn:ms.length=n) (hset:(b8 cid .any cs).set off (.vec cid)=cs'):
  ce ⟨s,h⟩ ⟨ca cid .any s,ak (ak (ct cid .any h) id (.box cs')) cid (.vec e n (aw ms row l))⟩:=by
 subst hn hset
 refine rO (σ:=⟨s,h⟩) (p:= .b off) hne ?_
 have hg:jw (h id) (.b off)=some (.own (.sl e ms) (.slice (l.map row))):=by simp only[hh,jw,hc]
 simp only[oP,hg,bX]
 simp only[hh,jf,qW]
 rfl
theorem ff {id cid off n e:Nat} {cs cs':List SV} {ms:List aL} {rows:List (List SV)} {l:List α} (hh:h id= .box cs) (hc:cs[off]?=some (.vec cid)) (hne:id≠cid) (hj:h cid= .vec e n rows) (hr:cH rows (aw ms row l)) (hn:ms.length=n) (hsz:∀ a,(row a).length=ms.length) (hset:(b8 cid .any cs).set off (.own (.sl e ms) (.slice (l.map row)))=cs'):
  ce ⟨s,h⟩ ⟨ca cid .any s,ak (ak (ct cid .any h) id (.box cs')) cid .dead⟩:=by
 subst hset hn
 have h1:ce ⟨s,h⟩ ⟨s,ak h cid (.vec e ms.length (aw ms row l))⟩:=lL (fun _=> .inl rfl) fun i=>by
  by_cases hi:i=cid
  ·subst hi;simp only[ak,LX,hj];exact gU hr
  ·simp only[ak,hi,LI];exact bk rfl
 have h2:=m8 (σ:=⟨s,ak h cid (.vec e ms.length (aw ms row l))⟩) (id:=id) (id':=cid) (p:= .b off) (m:= .sl e ms) (d:= .slice (l.map row)) (ch:= .vec e ms.length (aw ms row l)) (mk:= .vec) hne
  rfl (by intro r hr;obtain⟨a,_,rfl⟩:=Lt.1 hr;exact hsz a) (by simp only[ak,hne,LI,hh,jw,hc]) (by simp only[ak,LX])
 have e1:g_ ⟨s,ak h cid (.vec e ms.length (aw ms row l))⟩ id (.b off) cid (.sl e ms) (.slice (l.map row))=⟨ca cid .any s,ak (ak (ct cid .any h) id (.box ((b8 cid .any cs).set off (.own (.sl e ms) (.slice (l.map row)))))) cid .dead⟩:=by
  simp only[g_,ak,hne,LI,hh,jf,qW]
  congr 1
  funext i
  by_cases hi:i=cid
  ·subst hi;simp only[ak,LX]
  ·by_cases hi2:i=id
   ·subst hi2;simp only[ak,hi,LI,LX]
   ·simp only[ak,hi,hi2,LI,ct]
 rw[e1] at h2
 exact h1.trans h2
theorem oY {id cid off n e:Nat} {cs cs':List SV} {ms:List aL} {l:List α} (hh:h id= .box cs) (hc:cs[off]?=some (.own (.sl e ms) (.slice (l.map row)))) (hne:id≠cid) (hn:ms.length=n) (hset:(b8 cid .any cs).set off (.vec cid)=cs')
  (hk:AW P x0 Q ⟨ca cid .any s,ak (ak (ct cid .any h) id (.box cs')) cid (.vec e n (aw ms row l))⟩):AW P x0 Q ⟨s,h⟩:=Aw (Cb hh hc hne hn hset) hk
end
attribute [push_cast] SV.plug SV.plugs Hx aL.plains aL.plain Ba rP fC cX M7 List.set_set
theorem FM {α:Type} {row:α->List DV} {h:Nat->Ch} {id e n:Nat} {l:List α} {xs rs:List SV} {ids:List Nat} (hh:h id= .vec e n (bH row l)) (hsz:∀ a,(row a).length=n) (hi:id∉ids) (hl:jh h xs rs ids):jh h (.vec id::xs) (.own (.sl e (List.replicate n .sh)) (.slice (l.map row))::rs) (id::ids):=
 CU (ms:=List.replicate n .sh) (by rw[wD hsz];exact hh) oS (by simpa using hsz) hi hl
end Go.Proofs.YtgmnipfafmphaaaGreatDoor

