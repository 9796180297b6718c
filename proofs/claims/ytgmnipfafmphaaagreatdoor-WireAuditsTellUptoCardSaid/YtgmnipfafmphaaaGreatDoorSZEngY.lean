/-
  My text.
-/
import Derived.Test.YtgmnipfafmphaaaGreatDoorSZEngX
namespace Go.Proofs.YtgmnipfafmphaaaGreatDoor
set_option linter.unusedSimpArgs false
set_option linter.unusedVariables false
open Go.RowKit
theorem DL (m:aL) (ms:List aL) (d:DV) (ds:List DV):bW (m::ms) (d::ds)=oO m d::bW ms ds:=rfl
theorem FJ:bW [] []=[]:=rfl
theorem sa {h:Nat->Ch}:∀ {xs:List SV} {ds:List DV},SV.toDVs xs=some ds->jh h xs (ds.map .d) []
 |[],ds,hd=>by simp only[SV.toDVs,K0] at hd;subst hd;exact .nil
 |x::xs,ds,hd=>by
  unfold SV.toDVs at hd
  split at hd
  ·rename_i d ds' h1 h2
   simp only[K0] at hd;subst hd
   exact .data h1 (sa h2)
  ·cases hd
theorem ls {h:Nat->Ch}:∀ {xs:List SV} {ds:List DV},SV.toDVs xs=some ds->HandL h xs (ds.map .d) (ds.map .d) []
 |[],ds,hd=>by simp only[SV.toDVs,K0] at hd;subst hd;exact .nil
 |x::xs,ds,hd=>by
  unfold SV.toDVs at hd
  split at hd
  ·rename_i d ds' h1 h2
   simp only[K0] at hd;subst hd
   exact .data h1 (ls h2)
  ·cases hd
section
variable {P:Program} {x:SC} {Q:AX->St->Prop} {σ:St} {s:Nat->SV} {h:Nat->Ch} {K:St->Prop} {sos:List SO} {α:Type} {row:α->List DV}
theorem wC {id cid off n e:Nat} {cs cs':List SV} {ms:List aL} {l:List α} (hh:h id= .box cs) (hc:cs[off]?=some (.own (.sl e ms) (.slice (l.map row)))) (hne:id≠cid) (hms:ms=List.replicate n .sh) (hsz:∀ a,(row a).length=n) (hset:(b8 cid .any cs).set off (.vec cid)=cs'):
  ce ⟨s,h⟩ ⟨ca cid .any s,ak (ak (ct cid .any h) id (.box cs')) cid (.vec e n (bH row l))⟩:=by
 subst hms hset
 refine rO (σ:=⟨s,h⟩) (p:= .b off) hne ?_
 have hg:jw (h id) (.b off)=some (.own (.sl e (List.replicate n .sh)) (.slice (l.map row))):=by simp only[hh,jw,hc]
 simp only[oP,hg,bX,Ll,lg hsz]
 simp only[hh,jf,qW]
theorem oX {id cid off n e:Nat} {cs cs':List SV} {ms:List aL} {l:List α} (hh:h id= .box cs) (hc:cs[off]?=some (.own (.sl e ms) (.slice (l.map row)))) (hne:id≠cid) (hms:ms=List.replicate n .sh) (hsz:∀ a,(row a).length=n) (hset:(b8 cid .any cs).set off (.vec cid)=cs')
  (hk:AW P x Q ⟨ca cid .any s,ak (ak (ct cid .any h) id (.box cs')) cid (.vec e n (bH row l))⟩):AW P x Q ⟨s,h⟩:=Aw (wC hh hc hne hms hsz hset) hk
theorem FK {id cid off n e:Nat} {cs cs':List SV} (hh:h id= .box cs) (hc:cs[off]?=some .nils) (hne:id≠cid) (hset:(b8 cid .any cs).set off (.vec cid)=cs'):
  ce ⟨s,h⟩ ⟨ca cid .any s,ak (ak (ct cid .any h) id (.box cs')) cid (.vec e n [])⟩:=by
 have h1:ce ⟨s,h⟩ ⟨s,ak h id (.box (cs.set off (.own (.sl e (List.replicate n .sh)) (.slice []))))⟩:=lL (fun _=> .inl rfl) fun i=>by
  by_cases hi:i=id
  ·subst hi
   simp only[ak,LX,hh]
   refine A3 ?_
   have key:∀ (cs:List SV) (off:Nat),cs[off]?=some .nils->aC cs (cs.set off (.own (.sl e (List.replicate n .sh)) (.slice []))):=by
    intro cs
    induction cs with
    |nil=>intro off hc;simp at hc
    |cons c cs ih=>
     intro off hc
     cases off with
     |zero=>simp at hc;subst hc;exact .cons (.inr ⟨rfl,_,_,rfl⟩) aC.rfl
     |succ off=>exact .consS (.inl rfl) (ih off (by simpa using hc))
   exact key cs off hc
  ·simp only[ak,hi,LI];exact bk rfl
 have hlt:off<cs.length:=(K5.1 hc).1
 have h2:=wC (s:=s) (h:=ak h id (.box (cs.set off (.own (.sl e (List.replicate n .sh)) (.slice []))))) (id:=id) (cid:=cid) (off:=off) (n:=n) (e:=e) (l:=([]:List Unit)) (row:=fun _=>List.replicate n .any) (by simp only[ak,LX];rfl) (by rw[MU hlt];rfl) hne rfl oS rfl
 refine h1.trans ?_
 have e1:ak (ak (ct cid .any (ak h id (.box (cs.set off (.own (.sl e (List.replicate n .sh)) (.slice [])))))) id (.box ((b8 cid .any (cs.set off (.own (.sl e (List.replicate n .sh)) (.slice [])))).set off (.vec cid)))) cid (.vec e n (bH (fun _=>List.replicate n .any) ([]:List Unit)))=ak (ak (ct cid .any h) id (.box cs')) cid (.vec e n []):=by
  funext i
  simp only[ak,ct]
  by_cases hi:i=cid
  ·simp[hi,bH]
  ·by_cases hi2:i=id
   ·simp only[hi2,hne,LI,LX]
    rw[<-hset]
    congr 1
    have:=AD cid .any (.own (.sl e (List.replicate n .sh)) (.slice [])) cs off
    simp only[cr] at this
    rw[<-this,List.set_set]
   ·simp[hi,hi2]
 rw[e1] at h2
 exact h2
theorem fe {id cid off n e:Nat} {cs cs':List SV} {rows:List (List SV)} {l:List α} (hh:h id= .box cs) (hc:cs[off]?=some (.vec cid)) (hne:id≠cid) (hj:h cid= .vec e n rows) (hr:cH rows (bH row l)) (hsz:∀ a,(row a).length=n) (hset:(b8 cid .any cs).set off (.own (.sl e (List.replicate n .sh)) (.slice (l.map row)))=cs'):
  ce ⟨s,h⟩ ⟨ca cid .any s,ak (ak (ct cid .any h) id (.box cs')) cid .dead⟩:=by
 subst hset
 have h1:ce ⟨s,h⟩ ⟨s,ak h cid (.vec e n (bH row l))⟩:=lL (fun _=> .inl rfl) fun i=>by
  by_cases hi:i=cid
  ·subst hi;simp only[ak,LX,hj];exact gU hr
  ·simp only[ak,hi,LI];exact bk rfl
 have h2:=m8 (σ:=⟨s,ak h cid (.vec e n (bH row l))⟩) (id:=id) (id':=cid) (p:= .b off) (m:= .sl e (List.replicate n .sh)) (d:= .slice (l.map row)) (ch:= .vec e n (bH row l)) (mk:= .vec) hne
  (by simp only[bX,Ll,lg hsz]) (by intro r hr;obtain⟨a,_,rfl⟩:=Lt.1 hr;simp[hsz]) (by simp only[ak,hne,LI,hh,jw,hc]) (by simp only[ak,LX])
 have e1:g_ ⟨s,ak h cid (.vec e n (bH row l))⟩ id (.b off) cid (.sl e (List.replicate n .sh)) (.slice (l.map row))=⟨ca cid .any s,ak (ak (ct cid .any h) id (.box ((b8 cid .any cs).set off (.own (.sl e (List.replicate n .sh)) (.slice (l.map row)))))) cid .dead⟩:=by
  simp only[g_,ak,hne,LI,hh,jf,qW]
  congr 1
  funext i
  by_cases hi:i=cid
  ·subst hi;simp only[ak,LX]
  ·by_cases hi2:i=id
   ·subst hi2;simp only[ak,hi,LI,LX]
   ·simp only[ak,hi,hi2,LI,ct]
 rw[e1] at h2
 exact h1.trans h2
theorem vc {id:Nat} {cs cs':List SV} (hh:h id= .box cs) (hc:aC cs cs'):ce ⟨s,h⟩ ⟨s,ak h id (.box cs')⟩:=lL (fun _=> .inl rfl) fun i=>by
 by_cases hi:i=id
 ·subst hi;simp only[ak,LX,hh];exact A3 hc
 ·simp only[ak,hi,LI];exact bk rfl
theorem Hu {Y R:Type} {r:R} {a:Option Y} {k:Y->Option R} {dst:Nat} {f id:Nat} {args:List SX} {ms:List aL} {E:Y->SV} {G:Y->List DV} {ci as0 as:List DV} {gs cs:List SV} {s1:Nat->SV} {h1:Nat->Ch}
  (hm:a.bind k=some r) (hcl:ce ⟨s,h⟩ ⟨s1,h1⟩) (hx:args.map (ev s1)= .ref id 0::gs) (hgs:SV.toDVs gs=some as0) (hh:h1 id= .box cs) (hcs:aC cs (bW ms ci)) (hlen:ci.length=ms.length)
  (hs:∀ y,a=some y->bI P f (.own (.pt ms) (.ptr ci)::as.map .d) (E y) (.own (.pt ms) (.ptr (G y))::as.map .d)) (he:as0=as) (henc:∀ y,(E y).closed=true/\(E y).nOwn=0/\(G y).length=ms.length)
  (hk:∀ y,k y=some r->aA P K sos ⟨ak s1 dst (E y),ak h1 id (.box (bW ms (G y)))⟩):aA P K (.p (some dst) (.f f) args::sos) ⟨s,h⟩:=by
 subst he
 cases hy:a with
 |none=>rw[hy] at hm;cases hm
 |some y=>
  rw[hy] at hm
  obtain⟨c1,c2,c3⟩:=henc y
  have hmap:∀ (l:List SX) (h':Nat->Ch),l.map (ev (St.s ⟨s1,h'⟩))=l.map (ev s1):=fun _ _=>rfl
  refine JL (σ1:=⟨s1,ak h1 id (.box (bW ms ci))⟩) (L:=[(id,.box (bW ms (G y)))]) (hcl.trans (vc hh hcs)) (hs y hy) c1 ?_ (s':=ak s1 dst (E y)) (h':=ak h1 id (.box (bW ms (G y)))) ?_ (hk y hm)
  ·rw[hmap,hx]
   exact .ptr (ch:= .box (bW ms ci)) (mk:=fun id=> .ref id 0) (ch':= .box (bW ms (G y))) (mk':=fun id=> .ref id 0) rfl (by simp only[dY];exact hlen) rfl (by simp only[ak,LX]) oS (ls hgs)
  ·simp only[takes,c2,LX,gG]
   congr 2
   funext i
   by_cases hi:i=id
   ·simp[ak,hi]
   ·simp[ak,hi]
theorem I7 {A X:Type} {r:A×X} {a:A} {x0:X} {N n:Nat} {qs:List RV} {ms:List aL} {G:A×X->List DV} {E:A×X->SV} {as ds:List DV} {gs cs xs:List SV} {s1:Nat->SV} {h1:Nat->Ch}
  (hm:some (a,x0)=some r) (hcl:ce σ ⟨s1,h1⟩) (hh:h1 0= .box cs) (hcs:aC cs (bW ms (G (a,x0)))) (hlen:∀ x,(G x).length=ms.length) (hg:fA N ⟨s1,h1⟩ n= .ref 0 0::gs) (hgs:SV.toDVs gs=some as)
  (hq:DB ⟨s1,ak h1 0 (.box (bW ms (G (a,x0))))⟩ qs=some xs) (hxs:SV.toDVs xs=some ds) (he:E (a,x0)=oQ (ds.map .d)):vY N n qs (E r) (.own (.pt ms) (.ptr (G r))::as.map .d) .ret σ:=by
 cases hm
 have hgh:∀ (n:Nat) (h':Nat->Ch),fA N ⟨s1,h'⟩ n=fA N ⟨s1,h1⟩ n:=by
  intro n
  induction n with
  |zero=>intro _;rfl
  |succ n ih=>intro h';simp only[fA,ih h']
 have hxl:ds.length=xs.length:=by
  have:∀ {xs:List SV} {ds:List DV},SV.toDVs xs=some ds->ds.length=xs.length:=by
   intro xs
   induction xs with
   |nil=>intro ds hd;simp only[SV.toDVs,K0] at hd;subst hd;rfl
   |cons x xs ih=>
    intro ds hd
    unfold SV.toDVs at hd
    split at hd
    ·rename_i d ds' h1 h2
     simp only[K0] at hd;subst hd
     simp[ih h2]
    ·cases hd
  exact this hxs
 refine⟨⟨s1,ak h1 0 (.box (bW ms (G (a,x0))))⟩,hcl.trans (vc hh hcs),xs,ds.map .d,[0],hq,he,by simp[hxl], ?_⟩
 rw[hgh,hg]
 have hall:SV.toDVs (gs++xs)=some (as++ds):=by
  have:∀ {gs:List SV} {as:List DV},SV.toDVs gs=some as->SV.toDVs (gs++xs)=some (as++ds):=by
   intro gs
   induction gs with
   |nil=>intro as hd;simp only[SV.toDVs,K0] at hd;subst hd;simpa using hxs
   |cons g gs ih=>
    intro as hd
    unfold SV.toDVs at hd
    split at hd
    ·rename_i d as' h1 h2
     simp only[K0] at hd;subst hd
     simp only[Lw,SV.toDVs,h1,ih h2]
    ·cases hd
  exact this hgs
 rw[Lw,Lw,<-Mw]
 exact .own (ch:= .box (bW ms (G (a,x0)))) (mk:=fun id=> .ref id 0) rfl (by simp only[dY];exact hlen _) (by simp only[ak,LX]) oS (sa hall)
theorem vd {A X:Type} {r:A×X} {a:A} {x0:X} {N n:Nat} {qs:List RV} {ms:List aL} {G:A×X->List DV} {E:A×X->SV} {as ds:List DV} {gs cs xs:List SV} {s1:Nat->SV} {h1:Nat->Ch}
  (hm:some (a,x0)=some r) (hcl:ce σ ⟨s1,h1⟩) (hh:h1 0= .box cs) (hcs:aC cs (bW ms (G (a,x0)))) (hlen:∀ x,(G x).length=ms.length) (hg:fA N ⟨s1,h1⟩ n= .ref 0 0::gs) (hgs:SV.toDVs gs=some as)
  (hq:DB ⟨s1,ak h1 0 (.box (bW ms (G (a,x0))))⟩ qs=some xs) (hxs:SV.toDVs xs=some ds) (he:E (a,x0)=oQ (ds.map .d)):vY N n qs (E r) (.own (.pt ms) (.ptr (G r))::as.map .d) .normal σ:=by
 cases hm
 have hgh:∀ (n:Nat) (h':Nat->Ch),fA N ⟨s1,h'⟩ n=fA N ⟨s1,h1⟩ n:=by
  intro n
  induction n with
  |zero=>intro _;rfl
  |succ n ih=>intro h';simp only[fA,ih h']
 have hxl:ds.length=xs.length:=by
  have:∀ {xs:List SV} {ds:List DV},SV.toDVs xs=some ds->ds.length=xs.length:=by
   intro xs
   induction xs with
   |nil=>intro ds hd;simp only[SV.toDVs,K0] at hd;subst hd;rfl
   |cons x xs ih=>
    intro ds hd
    unfold SV.toDVs at hd
    split at hd
    ·rename_i d ds' h1 h2
     simp only[K0] at hd;subst hd
     simp[ih h2]
    ·cases hd
  exact this hxs
 refine⟨⟨s1,ak h1 0 (.box (bW ms (G (a,x0))))⟩,hcl.trans (vc hh hcs),xs,ds.map .d,[0],hq,he,by simp[hxl], ?_⟩
 rw[hgh,hg]
 have hall:SV.toDVs (gs++xs)=some (as++ds):=by
  have:∀ {gs:List SV} {as:List DV},SV.toDVs gs=some as->SV.toDVs (gs++xs)=some (as++ds):=by
   intro gs
   induction gs with
   |nil=>intro as hd;simp only[SV.toDVs,K0] at hd;subst hd;simpa using hxs
   |cons g gs ih=>
    intro as hd
    unfold SV.toDVs at hd
    split at hd
    ·rename_i d as' h1 h2
     simp only[K0] at hd;subst hd
     simp only[Lw,SV.toDVs,h1,ih h2]
    ·cases hd
  exact this hgs
 rw[Lw,Lw,<-Mw]
 exact .own (ch:= .box (bW ms (G (a,x0)))) (mk:=fun id=> .ref id 0) rfl (by simp only[dY];exact hlen _) (by simp only[ak,LX]) oS (sa hall)
end
theorem hY {x:SV} {m:aL} {d d':DV} (h1:x= .own m d) (h2:d=d'):Js x (.own m d'):=by rw[h1,h2];exact .inl (.inl rfl)
theorem uB:SV.tup []=oQ (([]:List DV).map .d):=rfl
section
variable {P:Program} {x:SC} {Q:AX->St->Prop} {s:Nat->SV} {h:Nat->Ch} {K:St->Prop} {sos:List SO} {α:Type} {row:α->List DV}
theorem Ca {id cid off n e:Nat} {cs cs':List SV} (hh:h id= .box cs) (hc:cs[off]?=some .nils) (hne:id≠cid) (hset:(b8 cid .any cs).set off (.vec cid)=cs')
  (hk:AW P x Q ⟨ca cid .any s,ak (ak (ct cid .any h) id (.box cs')) cid (.vec e n [])⟩):AW P x Q ⟨s,h⟩:=Aw (FK hh hc hne hset) hk
def JW (row:α->List DV):Option α->DV
 |none=> .raw (.pointer none)
 |some a=> .ptr (row a)
end
def Hv (N:Nat) (as:List DV):Nat->SV:=fun j=>if j=0 then .ref 0 0 else if j<N then(match as[j - 1]? with|some d=> .d d|none=> .d .any) else if j=N then .ref 0 0 else match as[j - N - 1]? with|some d=> .d d|none=> .d .any
theorem mj {P:Program} {f N k:Nat} {fn:Func} {x:SC} {qs:List RV} {ms:List aL} {cs:List DV} {as:List DV} {res:SV} {outs:List SV} (hf:P.funcs[f]?=some fn) (hfit:fits P f fn x qs k=true) (hN:fn.ntmps=N) (hk:as.length+1=k) (hol:outs.length=k) (hpos:0<N)
  (h:AW P x (vY N k qs res outs) ⟨Hv N as,ak (fun _=> .dead) 0 (.box (bW ms cs))⟩):bI P f (.own (.pt ms) (.ptr cs)::as.map .d) res outs:=by
 subst hN hk
 have hlen:(SV.own (.pt ms) (.ptr cs)::as.map SV.d).length=as.length+1:=by simp
 refine qZ (x:=x) (qs:=qs) hf (by rw[hlen];exact hfit) ?_ (by rw[hlen];exact hol) ?_
 ·simp only[Mu,AQ,bX,Option.isSome_some,L4]
  rw[Lj]
  intro y hy
  obtain⟨d,_,rfl⟩:=Lt.1 hy
  rfl
 ·rw[hlen]
  have e1:vX fn.ntmps (.own (.pt ms) (.ptr cs)::as.map .d)=Hv fn.ntmps as:=by
   funext j
   unfold vX Hv
   by_cases h0:j=0
   ·subst h0;simp[hpos,qh,bX]
   ·obtain⟨i,rfl⟩:∃ i,j=i+1:=⟨j - 1,by omega⟩
    by_cases hlt:i+1<fn.ntmps
    ·simp only[hlt,LX,Mb,LD,Nat.add_sub_cancel]
     rw[if_neg oM]
     cases as[i]?<;>simp[qh]
    ·simp only[hlt,LI]
     rw[if_neg oM]
     by_cases he:i+1=fn.ntmps
     ·simp only[he,LX,MZ,Ma];simp[qh,bX]
     ·obtain⟨q,hq⟩:∃ q,i+1 - fn.ntmps=q+1:=⟨i+1 - fn.ntmps - 1,by omega⟩
      simp only[he,LI,hq,Mb,LD,Nat.add_sub_cancel]
      cases as[q]?<;>simp[qh]
  have e2:xB (.own (.pt ms) (.ptr cs)::as.map .d)=ak (fun _=> .dead) 0 (.box (bW ms cs)):=by
   funext j
   unfold xB
   cases j with
   |zero=>simp[ak,xA,bX]
   |succ j=>
    simp only[Mb,LD,ak]
    rw[if_neg oM]
    cases as[j]?<;>simp[xA]
  rw[e1,e2];exact h
attribute [push_cast] DL FJ Hv fA DB RV.sv
end Go.Proofs.YtgmnipfafmphaaaGreatDoor

