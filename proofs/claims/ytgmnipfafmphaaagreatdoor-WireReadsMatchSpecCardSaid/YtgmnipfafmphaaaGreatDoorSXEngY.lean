/-
  My text.
-/
import Derived.Test.YtgmnipfafmphaaaGreatDoorSXEngX
namespace Go.Proofs.YtgmnipfafmphaaaGreatDoor
set_option linter.unusedSimpArgs false
set_option linter.unusedVariables false
open Go.RowKit
variable {A:Type} {C:List SV} {J:List DV} {N:Nat} {R X:Type} {as:List DV} {cs:List SV} {d d':DV} {dst e f:Nat} {gs:List SV} {h1:Nat->Ch} {id:Nat} {late:List (Nat×Nat×sA)} {ms:List bH} {n off:Nat} {qs:List RV} {rows:List (List SV)} {u:Nat->SV} {xs:List SV} {y:SX} {B:X} {E:A×X->SV} {G:A×X->List DV} {a:A} {kk:Option R} {r:A×X}
theorem AA (m:bH) (ms:List bH) (d:DV) (J:List DV):bA (m::ms) (d::J)=vY m d::bA ms J:=rfl
theorem N1:bA [] []=[]:=rfl
theorem zt {h:Nat->Ch}:∀ {xs:List SV} {J:List DV},SV.toDVs xs=some J->p7 h xs (J.map .d) []
 |[],J,hd=>by simp only[SV.toDVs,Vi] at hd;subst hd;exact .nil
 |x::xs,J,hd=>by
  unfold SV.toDVs at hd
  split at hd
  ·rename_i d i h1 h2
   simp only[Vi] at hd;subst hd
   exact .data h1 (zt h2)
  ·cases hd
theorem tZ {h:Nat->Ch}:∀ {xs:List SV} {J:List DV},SV.toDVs xs=some J->HandL h xs (J.map .d) (J.map .d) []
 |[],J,hd=>by simp only[SV.toDVs,Vi] at hd;subst hd;exact .nil
 |x::xs,J,hd=>by
  unfold SV.toDVs at hd
  split at hd
  ·rename_i d i h1 h2
   simp only[Vi] at hd;subst hd
   exact .data h1 (tZ h2)
  ·cases hd
section
variable {P:Program} {x:SC} {Q:AX->St->Prop} {σ:St} {s:Nat->SV} {h:Nat->Ch} {K:St->Prop} {sos:List SO} {α:Type} {H:α->List DV}
theorem DO {l:List α} (hh:h id= .box cs) (hc:cs[off]?=some (.own (.sl e ms) (.slice (l.map H)))) (U:id≠f) (j:ms=List.replicate n .sh) (F:∀ a,(H a).length=n) (I:(ck f .any cs).set off (.vec f)=C):
  bt ⟨s,h⟩ ⟨bG f .any s,ap (ap (bK f .any h) id (.box C)) f (.vec e n (aY H l))⟩:=by
 subst j I
 refine vW (σ:=⟨s,h⟩) (p:= .b off) U ?_
 have L:mm (h id) (.b off)=some (.own (.sl e (List.replicate n .sh)) (.slice (l.map H))):=by simp only[hh,mm,hc]
 simp only[uy,L,cP,VE,uG F]
 simp only[hh,mj,ux]
theorem dB {l:List α} (hh:h id= .box cs) (hc:cs[off]?=some (.own (.sl e ms) (.slice (l.map H)))) (U:id≠f) (j:ms=List.replicate n .sh) (F:∀ a,(H a).length=n) (I:(ck f .any cs).set off (.vec f)=C) (hk:AW P x Q ⟨bG f .any s,ap (ap (bK f .any h) id (.box C)) f (.vec e n (aY H l))⟩):AW P x Q ⟨s,h⟩:=p2 (DO hh hc U j F I) hk
theorem N2 (hh:h id= .box cs) (hc:cs[off]?=some .nils) (U:id≠f) (I:(ck f .any cs).set off (.vec f)=C):
  bt ⟨s,h⟩ ⟨bG f .any s,ap (ap (bK f .any h) id (.box C)) f (.vec e n [])⟩:=by
 have h1:bt ⟨s,h⟩ ⟨s,ap h id (.box (cs.set off (.own (.sl e (List.replicate n .sh)) (.slice []))))⟩:=mJ (fun _=> .inl rfl) fun i=>by
  by_cases hi:i=id
  ·subst hi
   simp only[ap,VW,hh]
   refine wd ?_
   have key:∀ (cs:List SV) (off:Nat),cs[off]?=some .nils->ae cs (cs.set off (.own (.sl e (List.replicate n .sh)) (.slice []))):=by
    intro cs
    induction cs with
    |nil=>intro off hc;simp at hc
    |cons c cs ih=>
     intro off hc
     cases off with
     |zero=>simp at hc;subst hc;exact .cons (.inr ⟨rfl,_,_,rfl⟩) ae.rfl
     |succ off=>exact .consS (.inl rfl) (ih off (by simpa using hc))
   exact key cs off hc
  ·simp only[ap,hi,VQ];exact bT rfl
 have h9:off<cs.length:=(Vr.1 hc).1
 have h2:=DO (s:=s) (h:=ap h id (.box (cs.set off (.own (.sl e (List.replicate n .sh)) (.slice []))))) (id:=id) (f:=f) (off:=off) (n:=n) (e:=e) (l:=([]:List Unit)) (H:=fun _=>List.replicate n .any) (by simp only[ap,VW];rfl) (by rw[Wg h9];rfl) U rfl oS rfl
 refine h1.trans ?_
 have e1:ap (ap (bK f .any (ap h id (.box (cs.set off (.own (.sl e (List.replicate n .sh)) (.slice [])))))) id (.box ((ck f .any (cs.set off (.own (.sl e (List.replicate n .sh)) (.slice [])))).set off (.vec f)))) f (.vec e n (aY (fun _=>List.replicate n .any) ([]:List Unit)))=ap (ap (bK f .any h) id (.box C)) f (.vec e n []):=by
  funext i
  simp only[ap,bK]
  by_cases hi:i=f
  ·simp[hi,aY]
  ·by_cases r5:i=id
   ·simp only[r5,U,VQ,VW]
    rw[<-I]
    congr 1
    have:=Dc f .any (.own (.sl e (List.replicate n .sh)) (.slice [])) cs off
    simp only[d6] at this
    rw[<-this,Xq]
   ·simp[hi,r5]
 rw[e1] at h2
 exact h2
theorem dW {l:List α} (hh:h id= .box cs) (hc:cs[off]?=some (.vec f)) (U:id≠f) (hj:h f= .vec e n rows) (D:bv rows (aY H l)) (F:∀ a,(H a).length=n) (I:(ck f .any cs).set off (.own (.sl e (List.replicate n .sh)) (.slice (l.map H)))=C):
  bt ⟨s,h⟩ ⟨bG f .any s,ap (ap (bK f .any h) id (.box C)) f .dead⟩:=by
 subst I
 have h1:bt ⟨s,h⟩ ⟨s,ap h f (.vec e n (aY H l))⟩:=mJ (fun _=> .inl rfl) fun i=>by
  by_cases hi:i=f
  ·subst hi;simp only[ap,VW,hj];exact fO D
  ·simp only[ap,hi,VQ];exact bT rfl
 have h2:=nN (σ:=⟨s,ap h f (.vec e n (aY H l))⟩) (id:=id) (g:=f) (p:= .b off) (m:= .sl e (List.replicate n .sh)) (d:= .slice (l.map H)) (ch:= .vec e n (aY H l)) (mk:= .vec) U
  (by simp only[cP,VE,uG F]) (by intro r D;obtain⟨a,_,rfl⟩:=VT.1 D;simp[F]) (by simp only[ap,U,VQ,hh,mm,hc]) (by simp only[ap,VW])
 have e1:hR ⟨s,ap h f (.vec e n (aY H l))⟩ id (.b off) f (.sl e (List.replicate n .sh)) (.slice (l.map H))=⟨bG f .any s,ap (ap (bK f .any h) id (.box ((ck f .any cs).set off (.own (.sl e (List.replicate n .sh)) (.slice (l.map H)))))) f .dead⟩:=by
  simp only[hR,ap,U,VQ,hh,mj,ux]
  congr 1
  funext i
  by_cases hi:i=f
  ·subst hi;simp only[ap,VW]
  ·by_cases r5:i=id
   ·subst r5;simp only[ap,hi,VQ,VW]
   ·simp only[ap,hi,r5,VQ,bK]
 rw[e1] at h2
 exact h1.trans h2
theorem Cl (hh:h id= .box cs) (hc:ae cs C):bt ⟨s,h⟩ ⟨s,ap h id (.box C)⟩:=mJ (fun _=> .inl rfl) fun i=>by
 by_cases hi:i=id
 ·subst hi;simp only[ap,VW,hh];exact wd hc
 ·simp only[ap,hi,VQ];exact bT rfl
theorem xC {Y:Type} {r:R} {a:Option Y} {k:Y->Option R} {args:List SX} {E:Y->SV} {G:Y->List DV} {d b:List DV} (Z:a.bind k=some r) (h6:bt ⟨s,h⟩ ⟨u,h1⟩) (hx:args.map (ev u)= .ref id 0::gs) (u4:SV.toDVs gs=some b) (hh:h1 id= .box cs) (r3:ae cs (bA ms d)) (I:d.length=ms.length) (hs:∀ y,a=some y->bw P f (.own (.pt ms) (.ptr d)::as.map .d) (E y) (.own (.pt ms) (.ptr (G y))::as.map .d)) (he:b=as) (c:∀ y,(E y).closed=true/\(E y).nOwn=0/\(G y).length=ms.length) (hk:∀ y,k y=some r->aI P K sos ⟨ap u dst (E y),ap h1 id (.box (bA ms (G y)))⟩):aI P K (.p (some dst) (.f f) args::sos) ⟨s,h⟩:=by
 subst he
 cases hy:a with
 |none=>rw[hy] at Z;cases Z
 |some y=>
  rw[hy] at Z
  obtain⟨T,c2,S⟩:=c y
  have s3:∀ (l:List SX) (h':Nat->Ch),l.map (ev (St.s ⟨u,h'⟩))=l.map (ev u):=fun _ _=>rfl
  refine Um (z:=⟨u,ap h1 id (.box (bA ms d))⟩) (L:=[(id,.box (bA ms (G y)))]) (h6.trans (Cl hh r3)) (hs y hy) T ?_ (s':=ap u dst (E y)) (h':=ap h1 id (.box (bA ms (G y)))) ?_ (hk y Z)
  ·rw[s3,hx]
   exact .ptr (ch:= .box (bA ms d)) (mk:=fun id=> .ref id 0) (ch':= .box (bA ms (G y))) (mk':=fun id=> .ref id 0) rfl (by simp only[gm];exact I) rfl (by simp only[ap,VW]) oS (tZ u4)
  ·simp only[takes,c2,VW,l0]
   congr 2
   funext i
   by_cases hi:i=id
   ·simp[ap,hi]
   ·simp[ap,hi]
theorem ti (Z:some (a,B)=some r) (h6:bt σ ⟨u,h1⟩) (hh:h1 0= .box cs) (r3:ae cs (bA ms (G (a,B)))) (I:∀ x,(G x).length=ms.length) (L:jD N ⟨u,h1⟩ n= .ref 0 0::gs) (u4:SV.toDVs gs=some as) (hq:IQ ⟨u,ap h1 0 (.box (bA ms (G (a,B))))⟩ qs=some xs) (T:SV.toDVs xs=some J) (he:E (a,B)=mY (J.map .d)):BO N n qs (E r) (.own (.pt ms) (.ptr (G r))::as.map .d) .ret σ:=by
 cases Z
 have z:∀ (n:Nat) (h':Nat->Ch),jD N ⟨u,h'⟩ n=jD N ⟨u,h1⟩ n:=by
  intro n
  induction n with
  |zero=>intro _;rfl
  |succ n ih=>intro h';simp only[jD,ih h']
 have r6:J.length=xs.length:=by
  have:∀ {xs:List SV} {J:List DV},SV.toDVs xs=some J->J.length=xs.length:=by
   intro xs
   induction xs with
   |nil=>intro J hd;simp only[SV.toDVs,Vi] at hd;subst hd;rfl
   |cons x xs ih=>
    intro J hd
    unfold SV.toDVs at hd
    split at hd
    ·rename_i d i h1 h2
     simp only[Vi] at hd;subst hd
     simp[ih h2]
    ·cases hd
  exact this T
 refine⟨⟨u,ap h1 0 (.box (bA ms (G (a,B))))⟩,h6.trans (Cl hh r3),xs,J.map .d,[0],hq,he,by simp[r6], ?_⟩
 rw[z,L]
 have W:SV.toDVs (gs++xs)=some (as++J):=by
  have:∀ {gs:List SV} {as:List DV},SV.toDVs gs=some as->SV.toDVs (gs++xs)=some (as++J):=by
   intro gs
   induction gs with
   |nil=>intro as hd;simp only[SV.toDVs,Vi] at hd;subst hd;simpa using T
   |cons g gs ih=>
    intro as hd
    unfold SV.toDVs at hd
    split at hd
    ·rename_i d b h1 h2
     simp only[Vi] at hd;subst hd
     simp only[VG,SV.toDVs,h1,ih h2]
    ·cases hd
  exact this u4
 rw[VG,VG,<-Wq]
 exact .own (ch:= .box (bA ms (G (a,B)))) (mk:=fun id=> .ref id 0) rfl (by simp only[gm];exact I _) (by simp only[ap,VW]) oS (zt W)
theorem oH (Z:some (a,B)=some r) (h6:bt σ ⟨u,h1⟩) (hh:h1 0= .box cs) (r3:ae cs (bA ms (G (a,B)))) (I:∀ x,(G x).length=ms.length) (L:jD N ⟨u,h1⟩ n= .ref 0 0::gs) (u4:SV.toDVs gs=some as) (hq:IQ ⟨u,ap h1 0 (.box (bA ms (G (a,B))))⟩ qs=some xs) (T:SV.toDVs xs=some J) (he:E (a,B)=mY (J.map .d)):BO N n qs (E r) (.own (.pt ms) (.ptr (G r))::as.map .d) .normal σ:=by
 cases Z
 have z:∀ (n:Nat) (h':Nat->Ch),jD N ⟨u,h'⟩ n=jD N ⟨u,h1⟩ n:=by
  intro n
  induction n with
  |zero=>intro _;rfl
  |succ n ih=>intro h';simp only[jD,ih h']
 have r6:J.length=xs.length:=by
  have:∀ {xs:List SV} {J:List DV},SV.toDVs xs=some J->J.length=xs.length:=by
   intro xs
   induction xs with
   |nil=>intro J hd;simp only[SV.toDVs,Vi] at hd;subst hd;rfl
   |cons x xs ih=>
    intro J hd
    unfold SV.toDVs at hd
    split at hd
    ·rename_i d i h1 h2
     simp only[Vi] at hd;subst hd
     simp[ih h2]
    ·cases hd
  exact this T
 refine⟨⟨u,ap h1 0 (.box (bA ms (G (a,B))))⟩,h6.trans (Cl hh r3),xs,J.map .d,[0],hq,he,by simp[r6], ?_⟩
 rw[z,L]
 have W:SV.toDVs (gs++xs)=some (as++J):=by
  have:∀ {gs:List SV} {as:List DV},SV.toDVs gs=some as->SV.toDVs (gs++xs)=some (as++J):=by
   intro gs
   induction gs with
   |nil=>intro as hd;simp only[SV.toDVs,Vi] at hd;subst hd;simpa using T
   |cons g gs ih=>
    intro as hd
    unfold SV.toDVs at hd
    split at hd
    ·rename_i d b h1 h2
     simp only[Vi] at hd;subst hd
     simp only[VG,SV.toDVs,h1,ih h2]
    ·cases hd
  exact this u4
 rw[VG,VG,<-Wq]
 exact .own (ch:= .box (bA ms (G (a,B)))) (mk:=fun id=> .ref id 0) rfl (by simp only[gm];exact I _) (by simp only[ap,VW]) oS (zt W)
end
theorem oI {x:SV} {m:bH} (h1:x= .own m d) (h2:d=d'):Hh x (.own m d'):=by rw[h1,h2];exact .inl (.inl rfl)
theorem tj:SV.tup []=mY (([]:List DV).map .d):=rfl
theorem Tz {e:DV} (h:d=e):SV.d e=mY ([d].map .d):=by rw[h];rfl
theorem TA {es:List DV} (h:d::d'::J=es):SV.tup (es.map .d)=mY ((d::d'::J).map .d):=by rw[<-h];rfl
section
variable {P:Program} {x:SC} {Q:AX->St->Prop} {s:Nat->SV} {h:Nat->Ch} {K:St->Prop} {sos:List SO} {α:Type} {H:α->List DV}
theorem nA (hh:h id= .box cs) (hc:cs[off]?=some .nils) (U:id≠f) (I:(ck f .any cs).set off (.vec f)=C) (hk:AW P x Q ⟨bG f .any s,ap (ap (bK f .any h) id (.box C)) f (.vec e n [])⟩):AW P x Q ⟨s,h⟩:=p2 (N2 hh hc U I) hk
def uH (H:α->List DV):Option α->DV
 |none=> .raw (.pointer none)
 |some a=> .ptr (H a)
theorem Sf:DV.raw (.pointer none)=uH H none:=rfl
theorem N3 {cs:List DV} {a:α} (h:cs=H a):DV.ptr cs=uH H (some a):=by rw[h];rfl
theorem KL {r:R} {o:Option α} {x:SX} {kk:α->Option R} (Z:o.bind kk=some r) (hx:ev s x= .d (uH H o)) (hk:∀ a,kk a=some r->aI P K sos ⟨ap s dst (.d (.ptr (H a))),h⟩):aI P K (.r dst (.nilc x)::sos) ⟨s,h⟩:=by
 cases o with
 |none=>cases Z
 |some a=>exact jj (p:=True) (v:= .d (.ptr (H a))) (by simp only[rd,hx,uH]) trivial (hk a Z)
theorem P3 {r:R} {l l2:List UInt8} {x:SX} (Z:ew (gq (l.length+l2.length)) kk=some r) (hx:ev s x= .vec id) (hh:h id= .vec e 1 (aY ej l)) (hy:ev s y= .d (.str l2)) (hl:su ⟨ap (bG id .any s) dst (.vec id),ap (bK id .any h) id (.vec e 1 (aY ej (l++l2)))⟩ late) (hk:kk=some r->aI P K sos ⟨ap (bG id .any s) dst (.vec id),ap (bK id .any h) id (.vec e 1 (aY ej (l++l2)))⟩):aI P K (.x dst (.appS e x y) late::sos) ⟨s,h⟩:=by
 cases g:gq (l.length+l2.length) with
 |none=>rw[g] at Z;cases Z
 |some u=>
  rw[g] at Z
  have I:=nT.1 g
  refine Bj (p:=e=e/\1=1/\(aY ej l).length+l2.length<=137438953472) ?_ ⟨rfl,rfl,by simp only[sO];exact I⟩ hl (hk Z)
  simp only[wr,hx,hy,hh,dh,St.swap]
  rw[show(l2.map fun b=>[SV.d (.int .u8 b.toNat)])=aY ej l2 by simp[aY,ej,dR],sP,rz]
theorem sQ {r:R} {l l2:List α} {f:List (List SV)} {sz:Nat} {x:SX} (Z:ew (gq (l.length+l2.length)) kk=some r) (hx:ev s x= .vec id) (hh:h id= .vec e sz rows) (t:rows=aY H l) (hy:sM (ev s y)=some f) (M:f=aY H l2) (F:∀ a,(H a).length=sz) (hl:su ⟨ap (bG id .any s) dst (.vec id),ap (bK id .any h) id (.vec e sz (aY H (l++l2)))⟩ late) (hk:kk=some r->aI P K sos ⟨ap (bG id .any s) dst (.vec id),ap (bK id .any h) id (.vec e sz (aY H (l++l2)))⟩):aI P K (.x dst (.app e sz x y) late::sos) ⟨s,h⟩:=by
 subst t M
 cases g:gq (l.length+l2.length) with
 |none=>rw[g] at Z;cases Z
 |some u=>
  rw[g] at Z
  have I:=nT.1 g
  refine Bj (p:=e=e/\sz=sz/\(∀ r∈aY H l2,r.length=sz)/\(aY H l).length+(aY H l2).length<=137438953472) ?_ ⟨rfl,rfl,zq F l2,by simp only[sO];exact I⟩ hl (hk Z)
  simp only[wr,hx,hy,hh,dh,St.swap,sP,rz]
end
def P4 (N:Nat) (as:List DV):Nat->SV:=fun j=>if j=0 then .ref 0 0 else if j<N then(match as[j - 1]? with|some d=> .d d|none=> .d .any) else if j=N then .ref 0 0 else match as[j - N - 1]? with|some d=> .d d|none=> .d .any
theorem c9 {P:Program} {k:Nat} {fn:Func} {x:SC} {cs:List DV} {res:SV} {outs:List SV} (C:P.funcs[f]?=some fn) (o:fits P f fn x qs k=true) (hN:fn.ntmps=N) (hk:as.length+1=k) (t:outs.length=k) (X:0<N) (h:AW P x (BO N k qs res outs) ⟨P4 N as,ap (fun _=> .dead) 0 (.box (bA ms cs))⟩):bw P f (.own (.pt ms) (.ptr cs)::as.map .d) res outs:=by
 subst hN hk
 have I:(SV.own (.pt ms) (.ptr cs)::as.map SV.d).length=as.length+1:=by simp
 refine yv (x:=x) (qs:=qs) C (by rw[I];exact o) ?_ (by rw[I];exact t) ?_
 ·simp only[Wv,H_,cP,Option.isSome_some,V3]
  rw[VN]
  intro y hy
  obtain⟨d,_,rfl⟩:=VT.1 hy
  rfl
 ·rw[I]
  have e1:Ds fn.ntmps (.own (.pt ms) (.ptr cs)::as.map .d)=P4 fn.ntmps as:=by
   funext j
   unfold Ds P4
   by_cases h0:j=0
   ·subst h0;simp[X,xA,cP]
   ·obtain⟨i,rfl⟩:∃ i,j=i+1:=⟨j - 1,by omega⟩
    by_cases h9:i+1<fn.ntmps
    ·simp only[h9,VW,Wl,V5,Xj]
     rw[WU oM]
     cases as[i]?<;>simp[xA]
    ·simp only[h9,VQ]
     rw[WU oM]
     by_cases he:i+1=fn.ntmps
     ·simp only[he,VW,Wn,VZ];simp[xA,cP]
     ·obtain⟨q,hq⟩:∃ q,i+1 - fn.ntmps=q+1:=⟨i+1 - fn.ntmps - 1,by omega⟩
      simp only[he,VQ,hq,Wl,V5,Xj]
      cases as[q]?<;>simp[xA]
  have e2:EK (.own (.pt ms) (.ptr cs)::as.map .d)=ap (fun _=> .dead) 0 (.box (bA ms cs)):=by
   funext j
   unfold EK
   cases j with
   |zero=>simp[ap,EJ,cP]
   |succ j=>
    simp only[Wl,V5,ap]
    rw[WU oM]
    cases as[j]?<;>simp[EJ]
  rw[e1,e2];exact h
attribute [push_cast] AA N1 P4 jD IQ RV.sv
