/-
  My text.
-/
import Derived.Test.YteaolfcegaidpaaGreatDoorSXEngX
namespace Go.Proofs.YteaolfcegaidpaaGreatDoor
set_option linter.unusedSimpArgs false
set_option linter.unusedVariables false
open Go.RowKit
theorem GA (m:b8) (ms:List b8) (d:DV) (ds:List DV):fB (m::ms) (d::ds)=AQ m d::fB ms ds:=rfl
theorem H3:fB [] []=[]:=rfl
theorem wL {h:Nat->Ch}:∀ {xs:List SV} {ds:List DV},SV.toDVs xs=some ds->rP h xs (ds.map .d) []
 |[],ds,hd=>by simp only[SV.toDVs,L7] at hd;subst hd;exact .nil
 |x::xs,ds,hd=>by
  unfold SV.toDVs at hd
  split at hd
  ·rename_i d ds' h1 h2
   simp only[L7] at hd;subst hd
   exact .data h1 (wL h2)
  ·cases hd
theorem uN {h:Nat->Ch}:∀ {xs:List SV} {ds:List DV},SV.toDVs xs=some ds->HandL h xs (ds.map .d) (ds.map .d) []
 |[],ds,hd=>by simp only[SV.toDVs,L7] at hd;subst hd;exact .nil
 |x::xs,ds,hd=>by
  unfold SV.toDVs at hd
  split at hd
  ·rename_i d ds' h1 h2
   simp only[L7] at hd;subst hd
   exact .data h1 (uN h2)
  ·cases hd
section
variable {P:Program} {x:SC} {Q:AX->St->Prop} {σ:St} {s:Nat->SV} {h:Nat->Ch} {K:St->Prop} {sos:List SO} {α:Type} {row:α->List DV}
theorem vP {id cid off n e:Nat} {cs cs':List SV} {ms:List b8} {l:List α} (hh:h id= .box cs) (hc:cs[off]?=some (.own (.sl e ms) (.slice (l.map row)))) (hne:id≠cid) (hms:ms=List.replicate n .sh) (hsz:∀ a,(row a).length=n) (hset:(eE cid .any cs).set off (.vec cid)=cs'):
  f0 ⟨s,h⟩ ⟨eF cid .any s,ay (ay (jz cid .any h) id (.box cs')) cid (.vec e n (cm row l))⟩:=by
 subst hms hset
 refine Ho (σ:=⟨s,h⟩) (p:= .b off) hne ?_
 have hg:rM (h id) (.b off)=some (.own (.sl e (List.replicate n .sh)) (.slice (l.map row))):=by simp only[hh,rM,hc]
 simp only[zM,hg,cz,List.length_replicate,Fy hsz]
 simp only[hh,zx,EA]
theorem Af {id cid off n e:Nat} {cs cs':List SV} {ms:List b8} {l:List α} (hh:h id= .box cs) (hc:cs[off]?=some (.own (.sl e ms) (.slice (l.map row)))) (hne:id≠cid) (hms:ms=List.replicate n .sh) (hsz:∀ a,(row a).length=n) (hset:(eE cid .any cs).set off (.vec cid)=cs')
  (hk:AW P x Q ⟨eF cid .any s,ay (ay (jz cid .any h) id (.box cs')) cid (.vec e n (cm row l))⟩):AW P x Q ⟨s,h⟩:=yr (vP hh hc hne hms hsz hset) hk
theorem H4 {id cid off n e:Nat} {cs cs':List SV} (hh:h id= .box cs) (hc:cs[off]?=some .nils) (hne:id≠cid) (hset:(eE cid .any cs).set off (.vec cid)=cs'):
  f0 ⟨s,h⟩ ⟨eF cid .any s,ay (ay (jz cid .any h) id (.box cs')) cid (.vec e n [])⟩:=by
 have h1:f0 ⟨s,h⟩ ⟨s,ay h id (.box (cs.set off (.own (.sl e (List.replicate n .sh)) (.slice []))))⟩:=CA (fun _=> .inl rfl) fun i=>by
  by_cases hi:i=id
  ·subst hi
   simp only[ay,Nr,hh]
   refine DM ?_
   have key:∀ (cs:List SV) (off:Nat),cs[off]?=some .nils->aN cs (cs.set off (.own (.sl e (List.replicate n .sh)) (.slice []))):=by
    intro cs
    induction cs with
    |nil=>intro off hc;simp at hc
    |cons c cs ih=>
     intro off hc
     cases off with
     |zero=>simp at hc;subst hc;exact .cons (.inr ⟨rfl,_,_,rfl⟩) aN.rfl
     |succ off=>exact .consS (.inl rfl) (ih off (by simpa using hc))
   exact key cs off hc
  ·simp only[ay,hi,MZ];exact cT rfl
 have hlt:off<cs.length:=(Md.1 hc).1
 have h2:=vP (s:=s) (h:=ay h id (.box (cs.set off (.own (.sl e (List.replicate n .sh)) (.slice []))))) (id:=id) (cid:=cid) (off:=off) (n:=n) (e:=e) (l:=([]:List Unit)) (row:=fun _=>List.replicate n .any) (by simp only[ay,Nr];rfl) (by rw[List.getElem?_set_self hlt];rfl) hne rfl oS rfl
 refine h1.trans ?_
 have e1:ay (ay (jz cid .any (ay h id (.box (cs.set off (.own (.sl e (List.replicate n .sh)) (.slice [])))))) id (.box ((eE cid .any (cs.set off (.own (.sl e (List.replicate n .sh)) (.slice [])))).set off (.vec cid)))) cid (.vec e n (cm (fun _=>List.replicate n .any) ([]:List Unit)))=ay (ay (jz cid .any h) id (.box cs')) cid (.vec e n []):=by
  funext i
  simp only[ay,jz]
  by_cases hi:i=cid
  ·simp[hi,cm]
  ·by_cases hi2:i=id
   ·simp only[hi2,hne,MZ,Nr]
    rw[<-hset]
    congr 1
    have:=Dn cid .any (.own (.sl e (List.replicate n .sh)) (.slice [])) cs off
    simp only[eS] at this
    rw[<-this,List.set_set]
   ·simp[hi,hi2]
 rw[e1] at h2
 exact h2
theorem lT {id cid off n e:Nat} {cs cs':List SV} {rows:List (List SV)} {l:List α} (hh:h id= .box cs) (hc:cs[off]?=some (.vec cid)) (hne:id≠cid) (hj:h cid= .vec e n rows) (hr:lq rows (cm row l)) (hsz:∀ a,(row a).length=n) (hset:(eE cid .any cs).set off (.own (.sl e (List.replicate n .sh)) (.slice (l.map row)))=cs'):
  f0 ⟨s,h⟩ ⟨eF cid .any s,ay (ay (jz cid .any h) id (.box cs')) cid .dead⟩:=by
 subst hset
 have h1:f0 ⟨s,h⟩ ⟨s,ay h cid (.vec e n (cm row l))⟩:=CA (fun _=> .inl rfl) fun i=>by
  by_cases hi:i=cid
  ·subst hi;simp only[ay,Nr,hj];exact ri hr
  ·simp only[ay,hi,MZ];exact cT rfl
 have h2:=Gc (σ:=⟨s,ay h cid (.vec e n (cm row l))⟩) (id:=id) (id':=cid) (p:= .b off) (m:= .sl e (List.replicate n .sh)) (d:= .slice (l.map row)) (ch:= .vec e n (cm row l)) (mk:= .vec) hne
  (by simp only[cz,List.length_replicate,Fy hsz]) (by intro r hr;obtain⟨a,_,rfl⟩:=MT.1 hr;simp[hsz]) (by simp only[ay,hne,MZ,hh,rM,hc]) (by simp only[ay,Nr])
 have e1:wE ⟨s,ay h cid (.vec e n (cm row l))⟩ id (.b off) cid (.sl e (List.replicate n .sh)) (.slice (l.map row))=⟨eF cid .any s,ay (ay (jz cid .any h) id (.box ((eE cid .any cs).set off (.own (.sl e (List.replicate n .sh)) (.slice (l.map row)))))) cid .dead⟩:=by
  simp only[wE,ay,hne,MZ,hh,zx,EA]
  congr 1
  funext i
  by_cases hi:i=cid
  ·subst hi;simp only[ay,Nr]
  ·by_cases hi2:i=id
   ·subst hi2;simp only[ay,hi,MZ,Nr]
   ·simp only[ay,hi,hi2,MZ,jz]
 rw[e1] at h2
 exact h1.trans h2
theorem y2 {id:Nat} {cs cs':List SV} (hh:h id= .box cs) (hc:aN cs cs'):f0 ⟨s,h⟩ ⟨s,ay h id (.box cs')⟩:=CA (fun _=> .inl rfl) fun i=>by
 by_cases hi:i=id
 ·subst hi;simp only[ay,Nr,hh];exact DM hc
 ·simp only[ay,hi,MZ];exact cT rfl
theorem GB {Y R:Type} {r:R} {a:Option Y} {k:Y->Option R} {dst:Nat} {f id:Nat} {args:List SX} {ms:List b8} {E:Y->SV} {G:Y->List DV} {ci as0 as:List DV} {gs cs:List SV} {s1:Nat->SV} {h1:Nat->Ch}
  (hm:a.bind k=some r) (hcl:f0 ⟨s,h⟩ ⟨s1,h1⟩) (hx:args.map (ev s1)= .ref id 0::gs) (hgs:SV.toDVs gs=some as0) (hh:h1 id= .box cs) (hcs:aN cs (fB ms ci)) (hlen:ci.length=ms.length)
  (hs:∀ y,a=some y->cQ P f (.own (.pt ms) (.ptr ci)::as.map .d) (E y) (.own (.pt ms) (.ptr (G y))::as.map .d)) (he:as0=as) (henc:∀ y,(E y).closed=true/\(E y).nOwn=0/\(G y).length=ms.length)
  (hk:∀ y,k y=some r->ba P K sos ⟨ay s1 dst (E y),ay h1 id (.box (fB ms (G y)))⟩):ba P K (.p (some dst) (.f f) args::sos) ⟨s,h⟩:=by
 subst he
 cases hy:a with
 |none=>rw[hy] at hm;cases hm
 |some y=>
  rw[hy] at hm
  obtain⟨c1,c2,c3⟩:=henc y
  have hmap:∀ (l:List SX) (h':Nat->Ch),l.map (ev (St.s ⟨s1,h'⟩))=l.map (ev s1):=fun _ _=>rfl
  refine L1 (σ1:=⟨s1,ay h1 id (.box (fB ms ci))⟩) (L:=[(id,.box (fB ms (G y)))]) (hcl.trans (y2 hh hcs)) (hs y hy) c1 ?_ (s':=ay s1 dst (E y)) (h':=ay h1 id (.box (fB ms (G y)))) ?_ (hk y hm)
  ·rw[hmap,hx]
   exact .ptr (ch:= .box (fB ms ci)) (mk:=fun id=> .ref id 0) (ch':= .box (fB ms (G y))) (mk':=fun id=> .ref id 0) rfl (by simp only[ec];exact hlen) rfl (by simp only[ay,Nr]) oS (uN hgs)
  ·simp only[takes,c2,Nr,jH]
   congr 2
   funext i
   by_cases hi:i=id
   ·simp[ay,hi]
   ·simp[ay,hi]
theorem CB {A X:Type} {r:A×X} {a:A} {x0:X} {N n:Nat} {qs:List RV} {ms:List b8} {G:A×X->List DV} {E:A×X->SV} {as ds:List DV} {gs cs xs:List SV} {s1:Nat->SV} {h1:Nat->Ch}
  (hm:some (a,x0)=some r) (hcl:f0 σ ⟨s1,h1⟩) (hh:h1 0= .box cs) (hcs:aN cs (fB ms (G (a,x0)))) (hlen:∀ x,(G x).length=ms.length) (hg:lp N ⟨s1,h1⟩ n= .ref 0 0::gs) (hgs:SV.toDVs gs=some as)
  (hq:HQ ⟨s1,ay h1 0 (.box (fB ms (G (a,x0))))⟩ qs=some xs) (hxs:SV.toDVs xs=some ds) (he:E (a,x0)=tp (ds.map .d)):DE N n qs (E r) (.own (.pt ms) (.ptr (G r))::as.map .d) .ret σ:=by
 cases hm
 have hgh:∀ (n:Nat) (h':Nat->Ch),lp N ⟨s1,h'⟩ n=lp N ⟨s1,h1⟩ n:=by
  intro n
  induction n with
  |zero=>intro _;rfl
  |succ n ih=>intro h';simp only[lp,ih h']
 have hxl:ds.length=xs.length:=by
  have:∀ {xs:List SV} {ds:List DV},SV.toDVs xs=some ds->ds.length=xs.length:=by
   intro xs
   induction xs with
   |nil=>intro ds hd;simp only[SV.toDVs,L7] at hd;subst hd;rfl
   |cons x xs ih=>
    intro ds hd
    unfold SV.toDVs at hd
    split at hd
    ·rename_i d ds' h1 h2
     simp only[L7] at hd;subst hd
     simp[ih h2]
    ·cases hd
  exact this hxs
 refine⟨⟨s1,ay h1 0 (.box (fB ms (G (a,x0))))⟩,hcl.trans (y2 hh hcs),xs,ds.map .d,[0],hq,he,by simp[hxl], ?_⟩
 rw[hgh,hg]
 have hall:SV.toDVs (gs++xs)=some (as++ds):=by
  have:∀ {gs:List SV} {as:List DV},SV.toDVs gs=some as->SV.toDVs (gs++xs)=some (as++ds):=by
   intro gs
   induction gs with
   |nil=>intro as hd;simp only[SV.toDVs,L7] at hd;subst hd;simpa using hxs
   |cons g gs ih=>
    intro as hd
    unfold SV.toDVs at hd
    split at hd
    ·rename_i d as' h1 h2
     simp only[L7] at hd;subst hd
     simp only[Mn,SV.toDVs,h1,ih h2]
    ·cases hd
  exact this hgs
 rw[Mn,Mn,<-NP]
 exact .own (ch:= .box (fB ms (G (a,x0)))) (mk:=fun id=> .ref id 0) rfl (by simp only[ec];exact hlen _) (by simp only[ay,Nr]) oS (wL hall)
theorem Fz {A X:Type} {r:A×X} {a:A} {x0:X} {N n:Nat} {qs:List RV} {ms:List b8} {G:A×X->List DV} {E:A×X->SV} {as ds:List DV} {gs cs xs:List SV} {s1:Nat->SV} {h1:Nat->Ch}
  (hm:some (a,x0)=some r) (hcl:f0 σ ⟨s1,h1⟩) (hh:h1 0= .box cs) (hcs:aN cs (fB ms (G (a,x0)))) (hlen:∀ x,(G x).length=ms.length) (hg:lp N ⟨s1,h1⟩ n= .ref 0 0::gs) (hgs:SV.toDVs gs=some as)
  (hq:HQ ⟨s1,ay h1 0 (.box (fB ms (G (a,x0))))⟩ qs=some xs) (hxs:SV.toDVs xs=some ds) (he:E (a,x0)=tp (ds.map .d)):DE N n qs (E r) (.own (.pt ms) (.ptr (G r))::as.map .d) .normal σ:=by
 cases hm
 have hgh:∀ (n:Nat) (h':Nat->Ch),lp N ⟨s1,h'⟩ n=lp N ⟨s1,h1⟩ n:=by
  intro n
  induction n with
  |zero=>intro _;rfl
  |succ n ih=>intro h';simp only[lp,ih h']
 have hxl:ds.length=xs.length:=by
  have:∀ {xs:List SV} {ds:List DV},SV.toDVs xs=some ds->ds.length=xs.length:=by
   intro xs
   induction xs with
   |nil=>intro ds hd;simp only[SV.toDVs,L7] at hd;subst hd;rfl
   |cons x xs ih=>
    intro ds hd
    unfold SV.toDVs at hd
    split at hd
    ·rename_i d ds' h1 h2
     simp only[L7] at hd;subst hd
     simp[ih h2]
    ·cases hd
  exact this hxs
 refine⟨⟨s1,ay h1 0 (.box (fB ms (G (a,x0))))⟩,hcl.trans (y2 hh hcs),xs,ds.map .d,[0],hq,he,by simp[hxl], ?_⟩
 rw[hgh,hg]
 have hall:SV.toDVs (gs++xs)=some (as++ds):=by
  have:∀ {gs:List SV} {as:List DV},SV.toDVs gs=some as->SV.toDVs (gs++xs)=some (as++ds):=by
   intro gs
   induction gs with
   |nil=>intro as hd;simp only[SV.toDVs,L7] at hd;subst hd;simpa using hxs
   |cons g gs ih=>
    intro as hd
    unfold SV.toDVs at hd
    split at hd
    ·rename_i d as' h1 h2
     simp only[L7] at hd;subst hd
     simp only[Mn,SV.toDVs,h1,ih h2]
    ·cases hd
  exact this hgs
 rw[Mn,Mn,<-NP]
 exact .own (ch:= .box (fB ms (G (a,x0)))) (mk:=fun id=> .ref id 0) rfl (by simp only[ec];exact hlen _) (by simp only[ay,Nr]) oS (wL hall)
end
theorem uO {x:SV} {m:b8} {d d':DV} (h1:x= .own m d) (h2:d=d'):LK x (.own m d'):=by rw[h1,h2];exact .inl (.inl rfl)
theorem KA:SV.tup []=tp (([]:List DV).map .d):=rfl
theorem Jc {d e:DV} (h:d=e):SV.d e=tp ([d].map .d):=by rw[h];rfl
section
variable {P:Program} {x:SC} {Q:AX->St->Prop} {s:Nat->SV} {h:Nat->Ch} {K:St->Prop} {sos:List SO} {α:Type} {row:α->List DV}
theorem KB {id cid off n e:Nat} {cs cs':List SV} (hh:h id= .box cs) (hc:cs[off]?=some .nils) (hne:id≠cid) (hset:(eE cid .any cs).set off (.vec cid)=cs')
  (hk:AW P x Q ⟨eF cid .any s,ay (ay (jz cid .any h) id (.box cs')) cid (.vec e n [])⟩):AW P x Q ⟨s,h⟩:=yr (H4 hh hc hne hset) hk
def Lm (row:α->List DV):Option α->DV
 |none=> .raw (.pointer none)
 |some a=> .ptr (row a)
theorem Jd {R:Type} {r:R} {l l2:List α} {rows rows2:List (List SV)} {dst e sz id:Nat} {x y:SX} {late:List (Nat×Nat×sM)} {kk:Option R} (hm:lS (sN (l.length+l2.length)) kk=some r) (hx:ev s x= .vec id) (hh:h id= .vec e sz rows) (hl1:rows=cm row l) (hy:vi (ev s y)=some rows2) (hl2:rows2=cm row l2) (hsz:∀ a,(row a).length=sz)
  (hl:AB ⟨ay (eF id .any s) dst (.vec id),ay (jz id .any h) id (.vec e sz (cm row (l++l2)))⟩ late)
  (hk:kk=some r->ba P K sos ⟨ay (eF id .any s) dst (.vec id),ay (jz id .any h) id (.vec e sz (cm row (l++l2)))⟩):ba P K (.x dst (.app e sz x y) late::sos) ⟨s,h⟩:=by
 subst hl1 hl2
 cases hlo:sN (l.length+l2.length) with
 |none=>rw[hlo] at hm;cases hm
 |some u=>
  rw[hlo] at hm
  have hlen:=xK.1 hlo
  refine K_ (p:=e=e/\sz=sz/\(∀ r∈cm row l2,r.length=sz)/\(cm row l).length+(cm row l2).length<=137438953472) ?_ ⟨rfl,rfl,Ae hsz l2,by simp only[tv];exact hlen⟩ hl (hk hm)
  simp only[wr,hx,hy,hh,cf,St.swap,yG,rj]
end
def Je (N:Nat) (as:List DV):Nat->SV:=fun j=>if j=0 then .ref 0 0 else if j<N then(match as[j - 1]? with|some d=> .d d|none=> .d .any) else if j=N then .ref 0 0 else match as[j - N - 1]? with|some d=> .d d|none=> .d .any
theorem jJ {P:Program} {f N k:Nat} {fn:Func} {x:SC} {qs:List RV} {ms:List b8} {cs:List DV} {as:List DV} {res:SV} {outs:List SV} (hf:P.funcs[f]?=some fn) (hfit:fits P f fn x qs k=true) (hN:fn.ntmps=N) (hk:as.length+1=k) (hol:outs.length=k) (hpos:0<N)
  (h:AW P x (DE N k qs res outs) ⟨Je N as,ay (fun _=> .dead) 0 (.box (fB ms cs))⟩):cQ P f (.own (.pt ms) (.ptr cs)::as.map .d) res outs:=by
 subst hN hk
 have hlen:(SV.own (.pt ms) (.ptr cs)::as.map SV.d).length=as.length+1:=by simp
 refine zW (x:=x) (qs:=qs) hf (by rw[hlen];exact hfit) ?_ (by rw[hlen];exact hol) ?_
 ·simp only[NL,DD,cz,Option.isSome_some,Mj]
  rw[MD]
  intro y hy
  obtain⟨d,_,rfl⟩:=MT.1 hy
  rfl
 ·rw[hlen]
  have e1:Ct fn.ntmps (.own (.pt ms) (.ptr cs)::as.map .d)=Je fn.ntmps as:=by
   funext j
   unfold Ct Je
   by_cases h0:j=0
   ·subst h0;simp[hpos,wJ,cz]
   ·obtain⟨i,rfl⟩:∃ i,j=i+1:=⟨j - 1,by omega⟩
    by_cases hlt:i+1<fn.ntmps
    ·simp only[hlt,Nr,M1,MH,Nat.add_sub_cancel]
     rw[NY oM]
     cases as[i]?<;>simp[wJ]
    ·simp only[hlt,MZ]
     rw[NY oM]
     by_cases he:i+1=fn.ntmps
     ·simp only[he,Nr,Nat.sub_self,Nu];simp[wJ,cz]
     ·obtain⟨q,hq⟩:∃ q,i+1 - fn.ntmps=q+1:=⟨i+1 - fn.ntmps - 1,by omega⟩
      simp only[he,MZ,hq,M1,MH,Nat.add_sub_cancel]
      cases as[q]?<;>simp[wJ]
  have e2:DC (.own (.pt ms) (.ptr cs)::as.map .d)=ay (fun _=> .dead) 0 (.box (fB ms cs)):=by
   funext j
   unfold DC
   cases j with
   |zero=>simp[ay,Cs,cz]
   |succ j=>
    simp only[M1,MH,ay]
    rw[NY oM]
    cases as[j]?<;>simp[Cs]
  rw[e1,e2];exact h
attribute [push_cast] GA H3 Je lp HQ RV.sv
