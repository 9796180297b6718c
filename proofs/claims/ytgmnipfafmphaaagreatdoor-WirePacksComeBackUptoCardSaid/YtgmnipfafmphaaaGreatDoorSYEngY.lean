/-
  My text.
-/
import Derived.Test.YtgmnipfafmphaaaGreatDoorSYEngX
namespace Go.Proofs.YtgmnipfafmphaaaGreatDoor
set_option linter.unusedSimpArgs false
set_option linter.unusedVariables false
open Go.RowKit
variable {A:Type} {C:List SV} {J:List DV} {N:Nat} {R X:Type} {as:List DV} {cs:List SV} {d d':DV} {dst e f:Nat} {gs:List SV} {h1:Nat->Ch} {id:Nat} {late:List (Nat×Nat×oX)} {ms:List bj} {n off:Nat} {p:Nat->SV} {qs:List RV} {rows:List (List SV)} {xs:List SV} {y:SX} {B:X} {E:A×X->SV} {G:A×X->List DV} {a:A} {kk:Option R} {r:A×X}
theorem xL (m:bj) (ms:List bj) (d:DV) (J:List DV):bi (m::ms) (d::J)=sJ m d::bi ms J:=rfl
theorem LV:bi [] []=[]:=rfl
theorem ww {h:Nat->Ch}:∀ {xs:List SV} {J:List DV},SV.toDVs xs=some J->lb h xs (J.map .d) []
 |[],J,hd=>by simp only[SV.toDVs,SN] at hd;subst hd;exact .nil
 |x::xs,J,hd=>by
  unfold SV.toDVs at hd
  split at hd
  ·rename_i d i h1 h2
   simp only[SN] at hd;subst hd
   exact .data h1 (ww h2)
  ·cases hd
theorem nU {h:Nat->Ch}:∀ {xs:List SV} {J:List DV},SV.toDVs xs=some J->HandL h xs (J.map .d) (J.map .d) []
 |[],J,hd=>by simp only[SV.toDVs,SN] at hd;subst hd;exact .nil
 |x::xs,J,hd=>by
  unfold SV.toDVs at hd
  split at hd
  ·rename_i d i h1 h2
   simp only[SN] at hd;subst hd
   exact .data h1 (nU h2)
  ·cases hd
section
variable {P:Program} {x:SC} {Q:AX->St->Prop} {σ:St} {s:Nat->SV} {h:Nat->Ch} {K:St->Prop} {sos:List SO} {α:Type} {H:α->List DV}
theorem A9 {l:List α} (hh:h id= .box cs) (hc:cs[off]?=some (.own (.sl e ms) (.slice (l.map H)))) (U:id≠f) (j:ms=List.replicate n .sh) (F:∀ a,(H a).length=n) (I:(cm f .any cs).set off (.vec f)=C):
  bm ⟨s,h⟩ ⟨bl f .any s,am (am (bG f .any h) id (.box C)) f (.vec e n (aM H l))⟩:=by
 subst j I
 refine sG (σ:=⟨s,h⟩) (p:= .b off) U ?_
 have hg:jZ (h id) (.b off)=some (.own (.sl e (List.replicate n .sh)) (.slice (l.map H))):=by simp only[hh,jZ,hc]
 simp only[rb,hg,cf,Tn,rm F]
 simp only[hh,jY,sK]
theorem cT {l:List α} (hh:h id= .box cs) (hc:cs[off]?=some (.own (.sl e ms) (.slice (l.map H)))) (U:id≠f) (j:ms=List.replicate n .sh) (F:∀ a,(H a).length=n) (I:(cm f .any cs).set off (.vec f)=C) (hk:AW P x Q ⟨bl f .any s,am (am (bG f .any h) id (.box C)) f (.vec e n (aM H l))⟩):AW P x Q ⟨s,h⟩:=pO (A9 hh hc U j F I) hk
theorem LW (hh:h id= .box cs) (hc:cs[off]?=some .nils) (U:id≠f) (I:(cm f .any cs).set off (.vec f)=C):
  bm ⟨s,h⟩ ⟨bl f .any s,am (am (bG f .any h) id (.box C)) f (.vec e n [])⟩:=by
 have h1:bm ⟨s,h⟩ ⟨s,am h id (.box (cs.set off (.own (.sl e (List.replicate n .sh)) (.slice []))))⟩:=mH (fun _=> .inl rfl) fun i=>by
  by_cases hi:i=id
  ·subst hi
   simp only[am,TB,hh]
   refine sO ?_
   have key:∀ (cs:List SV) (off:Nat),cs[off]?=some .nils->ag cs (cs.set off (.own (.sl e (List.replicate n .sh)) (.slice []))):=by
    intro cs
    induction cs with
    |nil=>intro off hc;simp at hc
    |cons c cs ih=>
     intro off hc
     cases off with
     |zero=>simp at hc;subst hc;exact .cons (.inr ⟨rfl,_,_,rfl⟩) ag.rfl
     |succ off=>exact .consS (.inl rfl) (ih off (by simpa using hc))
   exact key cs off hc
  ·simp only[am,hi,Tq];exact aN rfl
 have X:off<cs.length:=(SY.1 hc).1
 have h2:=A9 (s:=s) (h:=am h id (.box (cs.set off (.own (.sl e (List.replicate n .sh)) (.slice []))))) (id:=id) (f:=f) (off:=off) (n:=n) (e:=e) (l:=([]:List Unit)) (H:=fun _=>List.replicate n .any) (by simp only[am,TB];rfl) (by rw[Uc X];rfl) U rfl oS rfl
 refine h1.trans ?_
 have e1:am (am (bG f .any (am h id (.box (cs.set off (.own (.sl e (List.replicate n .sh)) (.slice [])))))) id (.box ((cm f .any (cs.set off (.own (.sl e (List.replicate n .sh)) (.slice [])))).set off (.vec f)))) f (.vec e n (aM (fun _=>List.replicate n .any) ([]:List Unit)))=am (am (bG f .any h) id (.box C)) f (.vec e n []):=by
  funext i
  simp only[am,bG]
  by_cases hi:i=f
  ·simp[hi,aM]
  ·by_cases r9:i=id
   ·simp only[r9,U,Tq,TB]
    rw[<-I]
    congr 1
    have:=Au f .any (.own (.sl e (List.replicate n .sh)) (.slice [])) cs off
    simp only[c8] at this
    rw[<-this,Vf]
   ·simp[hi,r9]
 rw[e1] at h2
 exact h2
theorem aJ {l:List α} (hh:h id= .box cs) (hc:cs[off]?=some (.vec f)) (U:id≠f) (hj:h f= .vec e n rows) (D:bL rows (aM H l)) (F:∀ a,(H a).length=n) (I:(cm f .any cs).set off (.own (.sl e (List.replicate n .sh)) (.slice (l.map H)))=C):
  bm ⟨s,h⟩ ⟨bl f .any s,am (am (bG f .any h) id (.box C)) f .dead⟩:=by
 subst I
 have h1:bm ⟨s,h⟩ ⟨s,am h f (.vec e n (aM H l))⟩:=mH (fun _=> .inl rfl) fun i=>by
  by_cases hi:i=f
  ·subst hi;simp only[am,TB,hj];exact dG D
  ·simp only[am,hi,Tq];exact aN rfl
 have h2:=nO (σ:=⟨s,am h f (.vec e n (aM H l))⟩) (id:=id) (g:=f) (p:= .b off) (m:= .sl e (List.replicate n .sh)) (d:= .slice (l.map H)) (ch:= .vec e n (aM H l)) (mk:= .vec) U
  (by simp only[cf,Tn,rm F]) (by intro r D;obtain⟨a,_,rfl⟩:=Tp.1 D;simp[F]) (by simp only[am,U,Tq,hh,jZ,hc]) (by simp only[am,TB])
 have e1:iu ⟨s,am h f (.vec e n (aM H l))⟩ id (.b off) f (.sl e (List.replicate n .sh)) (.slice (l.map H))=⟨bl f .any s,am (am (bG f .any h) id (.box ((cm f .any cs).set off (.own (.sl e (List.replicate n .sh)) (.slice (l.map H)))))) f .dead⟩:=by
  simp only[iu,am,U,Tq,hh,jY,sK]
  congr 1
  funext i
  by_cases hi:i=f
  ·subst hi;simp only[am,TB]
  ·by_cases r9:i=id
   ·subst r9;simp only[am,hi,Tq,TB]
   ·simp only[am,hi,r9,Tq,bG]
 rw[e1] at h2
 exact h1.trans h2
theorem zA (hh:h id= .box cs) (hc:ag cs C):bm ⟨s,h⟩ ⟨s,am h id (.box C)⟩:=mH (fun _=> .inl rfl) fun i=>by
 by_cases hi:i=id
 ·subst hi;simp only[am,TB,hh];exact sO hc
 ·simp only[am,hi,Tq];exact aN rfl
theorem Et {Y:Type} {r:R} {a:Option Y} {k:Y->Option R} {args:List SX} {E:Y->SV} {G:Y->List DV} {d b:List DV} (Z:a.bind k=some r) (h6:bm ⟨s,h⟩ ⟨p,h1⟩) (hx:args.map (ev p)= .ref id 0::gs) (u4:SV.toDVs gs=some b) (hh:h1 id= .box cs) (U:ag cs (bi ms d)) (I:d.length=ms.length) (hs:∀ y,a=some y->bu P f (.own (.pt ms) (.ptr d)::as.map .d) (E y) (.own (.pt ms) (.ptr (G y))::as.map .d)) (he:b=as) (c:∀ y,(E y).closed=true/\(E y).nOwn=0/\(G y).length=ms.length) (hk:∀ y,k y=some r->aD P K sos ⟨am p dst (E y),am h1 id (.box (bi ms (G y)))⟩):aD P K (.p (some dst) (.f f) args::sos) ⟨s,h⟩:=by
 subst he
 cases hy:a with
 |none=>rw[hy] at Z;cases Z
 |some y=>
  rw[hy] at Z
  obtain⟨T,c2,S⟩:=c y
  have s5:∀ (l:List SX) (h':Nat->Ch),l.map (ev (St.s ⟨p,h'⟩))=l.map (ev p):=fun _ _=>rfl
  refine Ra (j:=⟨p,am h1 id (.box (bi ms d))⟩) (L:=[(id,.box (bi ms (G y)))]) (h6.trans (zA hh U)) (hs y hy) T ?_ (s':=am p dst (E y)) (h':=am h1 id (.box (bi ms (G y)))) ?_ (hk y Z)
  ·rw[s5,hx]
   exact .ptr (ch:= .box (bi ms d)) (mk:=fun id=> .ref id 0) (ch':= .box (bi ms (G y))) (mk':=fun id=> .ref id 0) rfl (by simp only[eZ];exact I) rfl (by simp only[am,TB]) oS (nU u4)
  ·simp only[takes,c2,TB,iT]
   congr 2
   funext i
   by_cases hi:i=id
   ·simp[am,hi]
   ·simp[am,hi]
theorem A_ (Z:some (a,B)=some r) (h6:bm σ ⟨p,h1⟩) (hh:h1 0= .box cs) (U:ag cs (bi ms (G (a,B)))) (I:∀ x,(G x).length=ms.length) (hg:gV N ⟨p,h1⟩ n= .ref 0 0::gs) (u4:SV.toDVs gs=some as) (hq:JF ⟨p,am h1 0 (.box (bi ms (G (a,B))))⟩ qs=some xs) (T:SV.toDVs xs=some J) (he:E (a,B)=pQ (J.map .d)):yZ N n qs (E r) (.own (.pt ms) (.ptr (G r))::as.map .d) .ret σ:=by
 cases Z
 have t:∀ (n:Nat) (h':Nat->Ch),gV N ⟨p,h'⟩ n=gV N ⟨p,h1⟩ n:=by
  intro n
  induction n with
  |zero=>intro _;rfl
  |succ n ih=>intro h';simp only[gV,ih h']
 have r6:J.length=xs.length:=by
  have:∀ {xs:List SV} {J:List DV},SV.toDVs xs=some J->J.length=xs.length:=by
   intro xs
   induction xs with
   |nil=>intro J hd;simp only[SV.toDVs,SN] at hd;subst hd;rfl
   |cons x xs ih=>
    intro J hd
    unfold SV.toDVs at hd
    split at hd
    ·rename_i d i h1 h2
     simp only[SN] at hd;subst hd
     simp[ih h2]
    ·cases hd
  exact this T
 refine⟨⟨p,am h1 0 (.box (bi ms (G (a,B))))⟩,h6.trans (zA hh U),xs,J.map .d,[0],hq,he,by simp[r6], ?_⟩
 rw[t,hg]
 have W:SV.toDVs (gs++xs)=some (as++J):=by
  have:∀ {gs:List SV} {as:List DV},SV.toDVs gs=some as->SV.toDVs (gs++xs)=some (as++J):=by
   intro gs
   induction gs with
   |nil=>intro as hd;simp only[SV.toDVs,SN] at hd;subst hd;simpa using T
   |cons g gs ih=>
    intro as hd
    unfold SV.toDVs at hd
    split at hd
    ·rename_i d b h1 h2
     simp only[SN] at hd;subst hd
     simp only[Td,SV.toDVs,h1,ih h2]
    ·cases hd
  exact this u4
 rw[Td,Td,<-TY]
 exact .own (ch:= .box (bi ms (G (a,B)))) (mk:=fun id=> .ref id 0) rfl (by simp only[eZ];exact I _) (by simp only[am,TB]) oS (ww W)
theorem t6 (Z:some (a,B)=some r) (h6:bm σ ⟨p,h1⟩) (hh:h1 0= .box cs) (U:ag cs (bi ms (G (a,B)))) (I:∀ x,(G x).length=ms.length) (hg:gV N ⟨p,h1⟩ n= .ref 0 0::gs) (u4:SV.toDVs gs=some as) (hq:JF ⟨p,am h1 0 (.box (bi ms (G (a,B))))⟩ qs=some xs) (T:SV.toDVs xs=some J) (he:E (a,B)=pQ (J.map .d)):yZ N n qs (E r) (.own (.pt ms) (.ptr (G r))::as.map .d) .normal σ:=by
 cases Z
 have t:∀ (n:Nat) (h':Nat->Ch),gV N ⟨p,h'⟩ n=gV N ⟨p,h1⟩ n:=by
  intro n
  induction n with
  |zero=>intro _;rfl
  |succ n ih=>intro h';simp only[gV,ih h']
 have r6:J.length=xs.length:=by
  have:∀ {xs:List SV} {J:List DV},SV.toDVs xs=some J->J.length=xs.length:=by
   intro xs
   induction xs with
   |nil=>intro J hd;simp only[SV.toDVs,SN] at hd;subst hd;rfl
   |cons x xs ih=>
    intro J hd
    unfold SV.toDVs at hd
    split at hd
    ·rename_i d i h1 h2
     simp only[SN] at hd;subst hd
     simp[ih h2]
    ·cases hd
  exact this T
 refine⟨⟨p,am h1 0 (.box (bi ms (G (a,B))))⟩,h6.trans (zA hh U),xs,J.map .d,[0],hq,he,by simp[r6], ?_⟩
 rw[t,hg]
 have W:SV.toDVs (gs++xs)=some (as++J):=by
  have:∀ {gs:List SV} {as:List DV},SV.toDVs gs=some as->SV.toDVs (gs++xs)=some (as++J):=by
   intro gs
   induction gs with
   |nil=>intro as hd;simp only[SV.toDVs,SN] at hd;subst hd;simpa using T
   |cons g gs ih=>
    intro as hd
    unfold SV.toDVs at hd
    split at hd
    ·rename_i d b h1 h2
     simp only[SN] at hd;subst hd
     simp only[Td,SV.toDVs,h1,ih h2]
    ·cases hd
  exact this u4
 rw[Td,Td,<-TY]
 exact .own (ch:= .box (bi ms (G (a,B)))) (mk:=fun id=> .ref id 0) rfl (by simp only[eZ];exact I _) (by simp only[am,TB]) oS (ww W)
end
theorem ej {x:SV} {m:bj} (h1:x= .own m d) (h2:d=d'):Ik x (.own m d'):=by rw[h1,h2];exact .inl (.inl rfl)
theorem wx:SV.tup []=pQ (([]:List DV).map .d):=rfl
theorem Sa {e:DV} (h:d=e):SV.d e=pQ ([d].map .d):=by rw[h];rfl
theorem Qi {es:List DV} (h:d::d'::J=es):SV.tup (es.map .d)=pQ ((d::d'::J).map .d):=by rw[<-h];rfl
section
variable {P:Program} {x:SC} {Q:AX->St->Prop} {s:Nat->SV} {h:Nat->Ch} {K:St->Prop} {sos:List SO} {α:Type} {H:α->List DV}
theorem nk (hh:h id= .box cs) (hc:cs[off]?=some .nils) (U:id≠f) (I:(cm f .any cs).set off (.vec f)=C) (hk:AW P x Q ⟨bl f .any s,am (am (bG f .any h) id (.box C)) f (.vec e n [])⟩):AW P x Q ⟨s,h⟩:=pO (LW hh hc U I) hk
def rn (H:α->List DV):Option α->DV
 |none=> .raw (.pointer none)
 |some a=> .ptr (H a)
theorem LX:DV.raw (.pointer none)=rn H none:=rfl
theorem LY {cs:List DV} {a:α} (h:cs=H a):DV.ptr cs=rn H (some a):=by rw[h];rfl
theorem Io {r:R} {o:Option α} {x:SX} {kk:α->Option R} (Z:o.bind kk=some r) (hx:ev s x= .d (rn H o)) (hk:∀ a,kk a=some r->aD P K sos ⟨am s dst (.d (.ptr (H a))),h⟩):aD P K (.r dst (.nilc x)::sos) ⟨s,h⟩:=by
 cases o with
 |none=>cases Z
 |some a=>exact iC (p:=True) (v:= .d (.ptr (H a))) (by simp only[rd,hx,rn]) trivial (hk a Z)
theorem N6 {r:R} {l l2:List UInt8} {x:SX} (Z:mh (lG (l.length+l2.length)) kk=some r) (hx:ev s x= .vec id) (hh:h id= .vec e 1 (aM cP l)) (hy:ev s y= .d (.str l2)) (hl:oQ ⟨am (bl id .any s) dst (.vec id),am (bG id .any h) id (.vec e 1 (aM cP (l++l2)))⟩ late) (hk:kk=some r->aD P K sos ⟨am (bl id .any s) dst (.vec id),am (bG id .any h) id (.vec e 1 (aM cP (l++l2)))⟩):aD P K (.x dst (.appS e x y) late::sos) ⟨s,h⟩:=by
 cases g:lG (l.length+l2.length) with
 |none=>rw[g] at Z;cases Z
 |some u=>
  rw[g] at Z
  have I:=mG.1 g
  refine B2 (p:=e=e/\1=1/\(aM cP l).length+l2.length<=137438953472) ?_ ⟨rfl,rfl,by simp only[oZ];exact I⟩ hl (hk Z)
  simp only[wr,hx,hy,hh,cy,St.swap]
  rw[show(l2.map fun b=>[SV.d (.int .u8 b.toNat)])=aM cP l2 by simp[aM,cP,dR],o0,pY]
theorem wy {r:R} {l l2:List α} {f:List (List SV)} {sz:Nat} {x:SX} (Z:mh (lG (l.length+l2.length)) kk=some r) (hx:ev s x= .vec id) (hh:h id= .vec e sz rows) (b:rows=aM H l) (hy:pM (ev s y)=some f) (L:f=aM H l2) (F:∀ a,(H a).length=sz) (hl:oQ ⟨am (bl id .any s) dst (.vec id),am (bG id .any h) id (.vec e sz (aM H (l++l2)))⟩ late) (hk:kk=some r->aD P K sos ⟨am (bl id .any s) dst (.vec id),am (bG id .any h) id (.vec e sz (aM H (l++l2)))⟩):aD P K (.x dst (.app e sz x y) late::sos) ⟨s,h⟩:=by
 subst b L
 cases g:lG (l.length+l2.length) with
 |none=>rw[g] at Z;cases Z
 |some u=>
  rw[g] at Z
  have I:=mG.1 g
  refine B2 (p:=e=e/\sz=sz/\(∀ r∈aM H l2,r.length=sz)/\(aM H l).length+(aM H l2).length<=137438953472) ?_ ⟨rfl,rfl,A2 F l2,by simp only[oZ];exact I⟩ hl (hk Z)
  simp only[wr,hx,hy,hh,cy,St.swap,o0,pY]
end
def N7 (N:Nat) (as:List DV):Nat->SV:=fun j=>if j=0 then .ref 0 0 else if j<N then(match as[j - 1]? with|some d=> .d d|none=> .d .any) else if j=N then .ref 0 0 else match as[j - N - 1]? with|some d=> .d d|none=> .d .any
theorem f1 {P:Program} {k:Nat} {fn:Func} {x:SC} {cs:List DV} {res:SV} {outs:List SV} (C:P.funcs[f]?=some fn) (o:fits P f fn x qs k=true) (F:fn.ntmps=N) (hk:as.length+1=k) (J:outs.length=k) (r8:0<N) (h:AW P x (yZ N k qs res outs) ⟨N7 N as,am (fun _=> .dead) 0 (.box (bi ms cs))⟩):bu P f (.own (.pt ms) (.ptr cs)::as.map .d) res outs:=by
 subst F hk
 have I:(SV.own (.pt ms) (.ptr cs)::as.map SV.d).length=as.length+1:=by simp
 refine vn (x:=x) (qs:=qs) C (by rw[I];exact o) ?_ (by rw[I];exact J) ?_
 ·simp only[Uk,FK,cf,Option.isSome_some,T1]
  rw[Ti]
  intro y hy
  obtain⟨d,_,rfl⟩:=Tp.1 hy
  rfl
 ·rw[I]
  have e1:AD fn.ntmps (.own (.pt ms) (.ptr cs)::as.map .d)=N7 fn.ntmps as:=by
   funext j
   unfold AD N7
   by_cases h0:j=0
   ·subst h0;simp[r8,uj,cf]
   ·obtain⟨i,rfl⟩:∃ i,j=i+1:=⟨j - 1,by omega⟩
    by_cases X:i+1<fn.ntmps
    ·simp only[X,TB,TO,TC,UP]
     rw[if_neg oM]
     cases as[i]?<;>simp[uj]
    ·simp only[X,Tq]
     rw[if_neg oM]
     by_cases he:i+1=fn.ntmps
     ·simp only[he,TB,T9,Tz];simp[uj,cf]
     ·obtain⟨q,hq⟩:∃ q,i+1 - fn.ntmps=q+1:=⟨i+1 - fn.ntmps - 1,by omega⟩
      simp only[he,Tq,hq,TO,TC,UP]
      cases as[q]?<;>simp[uj]
  have e2:Ce (.own (.pt ms) (.ptr cs)::as.map .d)=am (fun _=> .dead) 0 (.box (bi ms cs)):=by
   funext j
   unfold Ce
   cases j with
   |zero=>simp[am,Cd,cf]
   |succ j=>
    simp only[TO,TC,am]
    rw[if_neg oM]
    cases as[j]?<;>simp[Cd]
  rw[e1,e2];exact h
attribute [push_cast] xL LV N7 gV JF RV.sv
end Go.Proofs.YtgmnipfafmphaaaGreatDoor

