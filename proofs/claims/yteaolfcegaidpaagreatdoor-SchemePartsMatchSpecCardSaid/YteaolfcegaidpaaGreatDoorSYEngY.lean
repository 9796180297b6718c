/-
  My text.
-/
import Derived.Test.YteaolfcegaidpaaGreatDoorSYEngX
namespace Go.Proofs.YteaolfcegaidpaaGreatDoor
set_option linter.unusedSimpArgs false
set_option linter.unusedVariables false
open Go.RowKit
theorem Ih (m:cB) (ms:List cB) (d:DV) (ds:List DV):iP (m::ms) (d::ds)=Cz m d::iP ms ds:=rfl
theorem J2:iP [] []=[]:=rfl
theorem yt {h:Nat->Ch}:∀ {xs:List SV} {ds:List DV},SV.toDVs xs=some ds->tp h xs (ds.map .d) []
 |[],ds,hd=>by simp only[SV.toDVs,Oy] at hd;subst hd;exact .nil
 |x::xs,ds,hd=>by
  unfold SV.toDVs at hd
  split at hd
  ·rename_i d ds' h1 h2
   simp only[Oy] at hd;subst hd
   exact .data h1 (yt h2)
  ·cases hd
theorem zm {h:Nat->Ch}:∀ {xs:List SV} {ds:List DV},SV.toDVs xs=some ds->HandL h xs (ds.map .d) (ds.map .d) []
 |[],ds,hd=>by simp only[SV.toDVs,Oy] at hd;subst hd;exact .nil
 |x::xs,ds,hd=>by
  unfold SV.toDVs at hd
  split at hd
  ·rename_i d ds' h1 h2
   simp only[Oy] at hd;subst hd
   exact .data h1 (zm h2)
  ·cases hd
section
variable {P:Program} {x:SC} {Q:AX->St->Prop} {σ:St} {s:Nat->SV} {h:Nat->Ch} {K:St->Prop} {sos:List SO} {α:Type} {row:α->List DV}
theorem xu {id cid off n e:Nat} {cs cs':List SV} {ms:List cB} {l:List α} (hh:h id= .box cs) (hc:cs[off]?=some (.own (.sl e ms) (.slice (l.map row)))) (hne:id≠cid) (hms:ms=List.replicate n .sh) (hsz:∀ a,(row a).length=n) (hset:(fk cid .any cs).set off (.vec cid)=cs'):
  dB ⟨s,h⟩ ⟨gn cid .any s,aH (aH (lv cid .any h) id (.box cs')) cid (.vec e n (bF row l))⟩:=by
 subst hms hset
 refine Jn (σ:=⟨s,h⟩) (p:= .b off) hne ?_
 have hg:tm (h id) (.b off)=some (.own (.sl e (List.replicate n .sh)) (.slice (l.map row))):=by simp only[hh,tm,hc]
 simp only[Bw,hg,cY,Qe,Eh hsz]
 simp only[hh,Bg,Gj]
theorem uO {id cid off n e:Nat} {cs cs':List SV} {ms:List cB} {l:List α} (hh:h id= .box cs) (hc:cs[off]?=some (.own (.sl e ms) (.slice (l.map row)))) (hne:id≠cid) (hms:ms=List.replicate n .sh) (hsz:∀ a,(row a).length=n) (hset:(fk cid .any cs).set off (.vec cid)=cs')
  (hk:AW P x Q ⟨gn cid .any s,aH (aH (lv cid .any h) id (.box cs')) cid (.vec e n (bF row l))⟩):AW P x Q ⟨s,h⟩:=C6 (xu hh hc hne hms hsz hset) hk
theorem J3 {id cid off n e:Nat} {cs cs':List SV} (hh:h id= .box cs) (hc:cs[off]?=some .nils) (hne:id≠cid) (hset:(fk cid .any cs).set off (.vec cid)=cs'):
  dB ⟨s,h⟩ ⟨gn cid .any s,aH (aH (lv cid .any h) id (.box cs')) cid (.vec e n [])⟩:=by
 have h1:dB ⟨s,h⟩ ⟨s,aH h id (.box (cs.set off (.own (.sl e (List.replicate n .sh)) (.slice []))))⟩:=zj (fun _=> .inl rfl) fun i=>by
  by_cases hi:i=id
  ·subst hi
   simp only[aH,PR,hh]
   refine Fr ?_
   have key:∀ (cs:List SV) (off:Nat),cs[off]?=some .nils->ba cs (cs.set off (.own (.sl e (List.replicate n .sh)) (.slice []))):=by
    intro cs
    induction cs with
    |nil=>intro off hc;simp at hc
    |cons c cs ih=>
     intro off hc
     cases off with
     |zero=>simp at hc;subst hc;exact .cons (.inr ⟨rfl,_,_,rfl⟩) ba.rfl
     |succ off=>exact .consS (.inl rfl) (ih off (by simpa using hc))
   exact key cs off hc
  ·simp only[aH,hi,Pp];exact bj rfl
 have hlt:off<cs.length:=(OG.1 hc).1
 have h2:=xu (s:=s) (h:=aH h id (.box (cs.set off (.own (.sl e (List.replicate n .sh)) (.slice []))))) (id:=id) (cid:=cid) (off:=off) (n:=n) (e:=e) (l:=([]:List Unit)) (row:=fun _=>List.replicate n .any) (by simp only[aH,PR];rfl) (by rw[List.getElem?_set_self hlt];rfl) hne rfl oS rfl
 refine h1.trans ?_
 have e1:aH (aH (lv cid .any (aH h id (.box (cs.set off (.own (.sl e (List.replicate n .sh)) (.slice [])))))) id (.box ((fk cid .any (cs.set off (.own (.sl e (List.replicate n .sh)) (.slice [])))).set off (.vec cid)))) cid (.vec e n (bF (fun _=>List.replicate n .any) ([]:List Unit)))=aH (aH (lv cid .any h) id (.box cs')) cid (.vec e n []):=by
  funext i
  simp only[aH,lv]
  by_cases hi:i=cid
  ·simp[hi,bF]
  ·by_cases hi2:i=id
   ·simp only[hi2,hne,Pp,PR]
    rw[<-hset]
    congr 1
    have:=E1 cid .any (.own (.sl e (List.replicate n .sh)) (.slice [])) cs off
    simp only[fQ] at this
    rw[<-this,List.set_set]
   ·simp[hi,hi2]
 rw[e1] at h2
 exact h2
theorem ed {id cid off n e:Nat} {cs cs':List SV} {rows:List (List SV)} {l:List α} (hh:h id= .box cs) (hc:cs[off]?=some (.vec cid)) (hne:id≠cid) (hj:h cid= .vec e n rows) (hr:kA rows (bF row l)) (hsz:∀ a,(row a).length=n) (hset:(fk cid .any cs).set off (.own (.sl e (List.replicate n .sh)) (.slice (l.map row)))=cs'):
  dB ⟨s,h⟩ ⟨gn cid .any s,aH (aH (lv cid .any h) id (.box cs')) cid .dead⟩:=by
 subst hset
 have h1:dB ⟨s,h⟩ ⟨s,aH h cid (.vec e n (bF row l))⟩:=zj (fun _=> .inl rfl) fun i=>by
  by_cases hi:i=cid
  ·subst hi;simp only[aH,PR,hj];exact qD hr
  ·simp only[aH,hi,Pp];exact bj rfl
 have h2:=HU (σ:=⟨s,aH h cid (.vec e n (bF row l))⟩) (id:=id) (id':=cid) (p:= .b off) (m:= .sl e (List.replicate n .sh)) (d:= .slice (l.map row)) (ch:= .vec e n (bF row l)) (mk:= .vec) hne
  (by simp only[cY,Qe,Eh hsz]) (by intro r hr;obtain⟨a,_,rfl⟩:=Pd.1 hr;simp[hsz]) (by simp only[aH,hne,Pp,hh,tm,hc]) (by simp only[aH,PR])
 have e1:yg ⟨s,aH h cid (.vec e n (bF row l))⟩ id (.b off) cid (.sl e (List.replicate n .sh)) (.slice (l.map row))=⟨gn cid .any s,aH (aH (lv cid .any h) id (.box ((fk cid .any cs).set off (.own (.sl e (List.replicate n .sh)) (.slice (l.map row)))))) cid .dead⟩:=by
  simp only[yg,aH,hne,Pp,hh,Bg,Gj]
  congr 1
  funext i
  by_cases hi:i=cid
  ·subst hi;simp only[aH,PR]
  ·by_cases hi2:i=id
   ·subst hi2;simp only[aH,hi,Pp,PR]
   ·simp only[aH,hi,hi2,Pp,lv]
 rw[e1] at h2
 exact h1.trans h2
theorem Ei {id:Nat} {cs cs':List SV} (hh:h id= .box cs) (hc:ba cs cs'):dB ⟨s,h⟩ ⟨s,aH h id (.box cs')⟩:=zj (fun _=> .inl rfl) fun i=>by
 by_cases hi:i=id
 ·subst hi;simp only[aH,PR,hh];exact Fr hc
 ·simp only[aH,hi,Pp];exact bj rfl
theorem At {Y R:Type} {r:R} {a:Option Y} {k:Y->Option R} {dst:Nat} {f id:Nat} {args:List SX} {ms:List cB} {E:Y->SV} {G:Y->List DV} {ci as0 as:List DV} {gs cs:List SV} {s1:Nat->SV} {h1:Nat->Ch}
  (hm:a.bind k=some r) (hcl:dB ⟨s,h⟩ ⟨s1,h1⟩) (hx:args.map (ev s1)= .ref id 0::gs) (hgs:SV.toDVs gs=some as0) (hh:h1 id= .box cs) (hcs:ba cs (iP ms ci)) (hlen:ci.length=ms.length)
  (hs:∀ y,a=some y->cF P f (.own (.pt ms) (.ptr ci)::as.map .d) (E y) (.own (.pt ms) (.ptr (G y))::as.map .d)) (he:as0=as) (henc:∀ y,(E y).closed=true/\(E y).nOwn=0/\(G y).length=ms.length)
  (hk:∀ y,k y=some r->bh P K sos ⟨aH s1 dst (E y),aH h1 id (.box (iP ms (G y)))⟩):bh P K (.p (some dst) (.f f) args::sos) ⟨s,h⟩:=by
 subst he
 cases hy:a with
 |none=>rw[hy] at hm;cases hm
 |some y=>
  rw[hy] at hm
  obtain⟨c1,c2,c3⟩:=henc y
  have hmap:∀ (l:List SX) (h':Nat->Ch),l.map (ev (St.s ⟨s1,h'⟩))=l.map (ev s1):=fun _ _=>rfl
  refine Oq (σ1:=⟨s1,aH h1 id (.box (iP ms ci))⟩) (L:=[(id,.box (iP ms (G y)))]) (hcl.trans (Ei hh hcs)) (hs y hy) c1 ?_ (s':=aH s1 dst (E y)) (h':=aH h1 id (.box (iP ms (G y)))) ?_ (hk y hm)
  ·rw[hmap,hx]
   exact .ptr (ch:= .box (iP ms ci)) (mk:=fun id=> .ref id 0) (ch':= .box (iP ms (G y))) (mk':=fun id=> .ref id 0) rfl (by simp only[eP];exact hlen) rfl (by simp only[aH,PR]) oS (zm hgs)
  ·simp only[takes,c2,PR,kW]
   congr 2
   funext i
   by_cases hi:i=id
   ·simp[aH,hi]
   ·simp[aH,hi]
theorem Ej {A X:Type} {r:A×X} {a:A} {x0:X} {N n:Nat} {qs:List RV} {ms:List cB} {G:A×X->List DV} {E:A×X->SV} {as ds:List DV} {gs cs xs:List SV} {s1:Nat->SV} {h1:Nat->Ch}
  (hm:some (a,x0)=some r) (hcl:dB σ ⟨s1,h1⟩) (hh:h1 0= .box cs) (hcs:ba cs (iP ms (G (a,x0)))) (hlen:∀ x,(G x).length=ms.length) (hg:io N ⟨s1,h1⟩ n= .ref 0 0::gs) (hgs:SV.toDVs gs=some as)
  (hq:FQ ⟨s1,aH h1 0 (.box (iP ms (G (a,x0))))⟩ qs=some xs) (hxs:SV.toDVs xs=some ds) (he:E (a,x0)=lN (ds.map .d)):BK N n qs (E r) (.own (.pt ms) (.ptr (G r))::as.map .d) .ret σ:=by
 cases hm
 have hgh:∀ (n:Nat) (h':Nat->Ch),io N ⟨s1,h'⟩ n=io N ⟨s1,h1⟩ n:=by
  intro n
  induction n with
  |zero=>intro _;rfl
  |succ n ih=>intro h';simp only[io,ih h']
 have hxl:ds.length=xs.length:=by
  have:∀ {xs:List SV} {ds:List DV},SV.toDVs xs=some ds->ds.length=xs.length:=by
   intro xs
   induction xs with
   |nil=>intro ds hd;simp only[SV.toDVs,Oy] at hd;subst hd;rfl
   |cons x xs ih=>
    intro ds hd
    unfold SV.toDVs at hd
    split at hd
    ·rename_i d ds' h1 h2
     simp only[Oy] at hd;subst hd
     simp[ih h2]
    ·cases hd
  exact this hxs
 refine⟨⟨s1,aH h1 0 (.box (iP ms (G (a,x0))))⟩,hcl.trans (Ei hh hcs),xs,ds.map .d,[0],hq,he,by simp[hxl], ?_⟩
 rw[hgh,hg]
 have hall:SV.toDVs (gs++xs)=some (as++ds):=by
  have:∀ {gs:List SV} {as:List DV},SV.toDVs gs=some as->SV.toDVs (gs++xs)=some (as++ds):=by
   intro gs
   induction gs with
   |nil=>intro as hd;simp only[SV.toDVs,Oy] at hd;subst hd;simpa using hxs
   |cons g gs ih=>
    intro as hd
    unfold SV.toDVs at hd
    split at hd
    ·rename_i d as' h1 h2
     simp only[Oy] at hd;subst hd
     simp only[OM,SV.toDVs,h1,ih h2]
    ·cases hd
  exact this hgs
 rw[OM,OM,<-QC]
 exact .own (ch:= .box (iP ms (G (a,x0)))) (mk:=fun id=> .ref id 0) rfl (by simp only[eP];exact hlen _) (by simp only[aH,PR]) oS (yt hall)
theorem AL {A X:Type} {r:A×X} {a:A} {x0:X} {N n:Nat} {qs:List RV} {ms:List cB} {G:A×X->List DV} {E:A×X->SV} {as ds:List DV} {gs cs xs:List SV} {s1:Nat->SV} {h1:Nat->Ch}
  (hm:some (a,x0)=some r) (hcl:dB σ ⟨s1,h1⟩) (hh:h1 0= .box cs) (hcs:ba cs (iP ms (G (a,x0)))) (hlen:∀ x,(G x).length=ms.length) (hg:io N ⟨s1,h1⟩ n= .ref 0 0::gs) (hgs:SV.toDVs gs=some as)
  (hq:FQ ⟨s1,aH h1 0 (.box (iP ms (G (a,x0))))⟩ qs=some xs) (hxs:SV.toDVs xs=some ds) (he:E (a,x0)=lN (ds.map .d)):BK N n qs (E r) (.own (.pt ms) (.ptr (G r))::as.map .d) .normal σ:=by
 cases hm
 have hgh:∀ (n:Nat) (h':Nat->Ch),io N ⟨s1,h'⟩ n=io N ⟨s1,h1⟩ n:=by
  intro n
  induction n with
  |zero=>intro _;rfl
  |succ n ih=>intro h';simp only[io,ih h']
 have hxl:ds.length=xs.length:=by
  have:∀ {xs:List SV} {ds:List DV},SV.toDVs xs=some ds->ds.length=xs.length:=by
   intro xs
   induction xs with
   |nil=>intro ds hd;simp only[SV.toDVs,Oy] at hd;subst hd;rfl
   |cons x xs ih=>
    intro ds hd
    unfold SV.toDVs at hd
    split at hd
    ·rename_i d ds' h1 h2
     simp only[Oy] at hd;subst hd
     simp[ih h2]
    ·cases hd
  exact this hxs
 refine⟨⟨s1,aH h1 0 (.box (iP ms (G (a,x0))))⟩,hcl.trans (Ei hh hcs),xs,ds.map .d,[0],hq,he,by simp[hxl], ?_⟩
 rw[hgh,hg]
 have hall:SV.toDVs (gs++xs)=some (as++ds):=by
  have:∀ {gs:List SV} {as:List DV},SV.toDVs gs=some as->SV.toDVs (gs++xs)=some (as++ds):=by
   intro gs
   induction gs with
   |nil=>intro as hd;simp only[SV.toDVs,Oy] at hd;subst hd;simpa using hxs
   |cons g gs ih=>
    intro as hd
    unfold SV.toDVs at hd
    split at hd
    ·rename_i d as' h1 h2
     simp only[Oy] at hd;subst hd
     simp only[OM,SV.toDVs,h1,ih h2]
    ·cases hd
  exact this hgs
 rw[OM,OM,<-QC]
 exact .own (ch:= .box (iP ms (G (a,x0)))) (mk:=fun id=> .ref id 0) rfl (by simp only[eP];exact hlen _) (by simp only[aH,PR]) oS (yt hall)
end
theorem kY {x:SV} {m:cB} {d d':DV} (h1:x= .own m d) (h2:d=d'):N7 x (.own m d'):=by rw[h1,h2];exact .inl (.inl rfl)
theorem Au:SV.tup []=lN (([]:List DV).map .d):=rfl
theorem Lu {d e:DV} (h:d=e):SV.d e=lN ([d].map .d):=by rw[h];rfl
section
variable {P:Program} {x:SC} {Q:AX->St->Prop} {s:Nat->SV} {h:Nat->Ch} {K:St->Prop} {sos:List SO} {α:Type} {row:α->List DV}
theorem MW {id cid off n e:Nat} {cs cs':List SV} (hh:h id= .box cs) (hc:cs[off]?=some .nils) (hne:id≠cid) (hset:(fk cid .any cs).set off (.vec cid)=cs')
  (hk:AW P x Q ⟨gn cid .any s,aH (aH (lv cid .any h) id (.box cs')) cid (.vec e n [])⟩):AW P x Q ⟨s,h⟩:=C6 (J3 hh hc hne hset) hk
def NG (row:α->List DV):Option α->DV
 |none=> .raw (.pointer none)
 |some a=> .ptr (row a)
theorem Lv {R:Type} {r:R} {l l2:List α} {rows rows2:List (List SV)} {dst e sz id:Nat} {x y:SX} {late:List (Nat×Nat×uk)} {kk:Option R} (hm:jV (tu (l.length+l2.length)) kk=some r) (hx:ev s x= .vec id) (hh:h id= .vec e sz rows) (hl1:rows=bF row l) (hy:x_ (ev s y)=some rows2) (hl2:rows2=bF row l2) (hsz:∀ a,(row a).length=sz)
  (hl:Co ⟨aH (gn id .any s) dst (.vec id),aH (lv id .any h) id (.vec e sz (bF row (l++l2)))⟩ late)
  (hk:kk=some r->bh P K sos ⟨aH (gn id .any s) dst (.vec id),aH (lv id .any h) id (.vec e sz (bF row (l++l2)))⟩):bh P K (.x dst (.app e sz x y) late::sos) ⟨s,h⟩:=by
 subst hl1 hl2
 cases hlo:tu (l.length+l2.length) with
 |none=>rw[hlo] at hm;cases hm
 |some u=>
  rw[hlo] at hm
  have hlen:=Dm.1 hlo
  refine Nw (p:=e=e/\sz=sz/\(∀ r∈bF row l2,r.length=sz)/\(bF row l).length+(bF row l2).length<=137438953472) ?_ ⟨rfl,rfl,Ft hsz l2,by simp only[uN];exact hlen⟩ hl (hk hm)
  simp only[wr,hx,hy,hh,c6,St.swap,Ak,wq]
end
def Lw (N:Nat) (as:List DV):Nat->SV:=fun j=>if j=0 then .ref 0 0 else if j<N then(match as[j - 1]? with|some d=> .d d|none=> .d .any) else if j=N then .ref 0 0 else match as[j - N - 1]? with|some d=> .d d|none=> .d .any
theorem je {P:Program} {f N k:Nat} {fn:Func} {x:SC} {qs:List RV} {ms:List cB} {cs:List DV} {as:List DV} {res:SV} {outs:List SV} (hf:P.funcs[f]?=some fn) (hfit:fits P f fn x qs k=true) (hN:fn.ntmps=N) (hk:as.length+1=k) (hol:outs.length=k) (hpos:0<N)
  (h:AW P x (BK N k qs res outs) ⟨Lw N as,aH (fun _=> .dead) 0 (.box (iP ms cs))⟩):cF P f (.own (.pt ms) (.ptr cs)::as.map .d) res outs:=by
 subst hN hk
 have hlen:(SV.own (.pt ms) (.ptr cs)::as.map SV.d).length=as.length+1:=by simp
 refine BN (x:=x) (qs:=qs) hf (by rw[hlen];exact hfit) ?_ (by rw[hlen];exact hol) ?_
 ·simp only[Qs,Fh,cY,Option.isSome_some,OZ]
  rw[Pa]
  intro y hy
  obtain⟨d,_,rfl⟩:=Pd.1 hy
  rfl
 ·rw[hlen]
  have e1:Ea fn.ntmps (.own (.pt ms) (.ptr cs)::as.map .d)=Lw fn.ntmps as:=by
   funext j
   unfold Ea Lw
   by_cases h0:j=0
   ·subst h0;simp[hpos,ym,cY]
   ·obtain⟨i,rfl⟩:∃ i,j=i+1:=⟨j - 1,by omega⟩
    by_cases hlt:i+1<fn.ntmps
    ·simp only[hlt,PR,Pn,O6,Qd]
     rw[P7 oM]
     cases as[i]?<;>simp[ym]
    ·simp only[hlt,Pp]
     rw[P7 oM]
     by_cases he:i+1=fn.ntmps
     ·simp only[he,PR,QG,PY];simp[ym,cY]
     ·obtain⟨q,hq⟩:∃ q,i+1 - fn.ntmps=q+1:=⟨i+1 - fn.ntmps - 1,by omega⟩
      simp only[he,Pp,hq,Pn,O6,Qd]
      cases as[q]?<;>simp[ym]
  have e2:Fg (.own (.pt ms) (.ptr cs)::as.map .d)=aH (fun _=> .dead) 0 (.box (iP ms cs)):=by
   funext j
   unfold Fg
   cases j with
   |zero=>simp[aH,D_,cY]
   |succ j=>
    simp only[Pn,O6,aH]
    rw[P7 oM]
    cases as[j]?<;>simp[D_]
  rw[e1,e2];exact h
attribute [push_cast] Ih J2 Lw io FQ RV.sv
