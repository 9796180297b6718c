/-
  My text.
-/
import Derived.Test.YteaolfcegaidpaaGreatDoorSZEngX
namespace Go.Proofs.YteaolfcegaidpaaGreatDoor
set_option linter.unusedSimpArgs false
set_option linter.unusedVariables false
open Go.RowKit
variable {A:Type} {N:Nat} {O:List DV} {R:Type} {V:List SV} {X:Type} {as:List DV} {cs:List SV} {d:DV} {dst e f:Nat} {gs:List SV} {h1:Nat->Ch} {id:Nat} {ms:List cO} {n off:Nat} {p:Nat->SV} {qs:List RV} {rows:List (List SV)} {xs:List SV} {D:X} {E:A×X->SV} {G:A×X->List DV} {a:A} {r:A×X}
theorem Lj (m:cO) (ms:List cO) (d:DV) (O:List DV):d7 (m::ms) (d::O)=Cm m d::d7 ms O:=rfl
theorem M5:d7 [] []=[]:=rfl
theorem Ac {h:Nat->Ch}:∀ {xs:List SV} {O:List DV},SV.toDVs xs=some O->pS h xs (O.map .d) []
 |[],O,hd=>by simp only[SV.toDVs,SN] at hd;subst hd;exact .nil
 |x::xs,O,hd=>by
  unfold SV.toDVs at hd
  split at hd
  ·rename_i d i h1 h2
   simp only[SN] at hd;subst hd
   exact .data h1 (Ac h2)
  ·cases hd
theorem rU {h:Nat->Ch}:∀ {xs:List SV} {O:List DV},SV.toDVs xs=some O->HandL h xs (O.map .d) (O.map .d) []
 |[],O,hd=>by simp only[SV.toDVs,SN] at hd;subst hd;exact .nil
 |x::xs,O,hd=>by
  unfold SV.toDVs at hd
  split at hd
  ·rename_i d i h1 h2
   simp only[SN] at hd;subst hd
   exact .data h1 (rU h2)
  ·cases hd
section
variable {P:Program} {x:SC} {Q:AX->St->Prop} {σ:St} {s:Nat->SV} {h:Nat->Ch} {K:St->Prop} {sos:List SO} {α:Type} {H:α->List DV}
theorem zi {l:List α} (hh:h id= .box cs) (hc:cs[off]?=some (.own (.sl e ms) (.slice (l.map H)))) (A:id≠f) (b:ms=List.replicate n .sh) (I:∀ a,(H a).length=n) (o:(ee f .any cs).set off (.vec f)=V):
  cS ⟨s,h⟩ ⟨eC f .any s,aD (aD (hT f .any h) id (.box V)) f (.vec e n (bG H l))⟩:=by
 subst b o
 refine Mm (σ:=⟨s,h⟩) (p:= .b off) A ?_
 have hg:uJ (h id) (.b off)=some (.own (.sl e (List.replicate n .sh)) (.slice (l.map H))):=by simp only[hh,uJ,hc]
 simp only[Dx,hg,cL,T9,tD I]
 simp only[hh,A3,GE]
theorem xf {l:List α} (hh:h id= .box cs) (hc:cs[off]?=some (.own (.sl e ms) (.slice (l.map H)))) (A:id≠f) (b:ms=List.replicate n .sh) (I:∀ a,(H a).length=n) (o:(ee f .any cs).set off (.vec f)=V) (hk:AW P x Q ⟨eC f .any s,aD (aD (hT f .any h) id (.box V)) f (.vec e n (bG H l))⟩):AW P x Q ⟨s,h⟩:=Ft (zi hh hc A b I o) hk
theorem M6 (hh:h id= .box cs) (hc:cs[off]?=some .nils) (A:id≠f) (o:(ee f .any cs).set off (.vec f)=V):
  cS ⟨s,h⟩ ⟨eC f .any s,aD (aD (hT f .any h) id (.box V)) f (.vec e n [])⟩:=by
 have h1:cS ⟨s,h⟩ ⟨s,aD h id (.box (cs.set off (.own (.sl e (List.replicate n .sh)) (.slice []))))⟩:=xd (fun _=> .inl rfl) fun i=>by
  by_cases hi:i=id
  ·subst hi
   simp only[aD,T6,hh]
   refine H7 ?_
   have key:∀ (cs:List SV) (off:Nat),cs[off]?=some .nils->bw cs (cs.set off (.own (.sl e (List.replicate n .sh)) (.slice []))):=by
    intro cs
    induction cs with
    |nil=>intro off hc;simp at hc
    |cons c cs ih=>
     intro off hc
     cases off with
     |zero=>simp at hc;subst hc;exact .cons (.inr ⟨rfl,_,_,rfl⟩) bw.rfl
     |succ off=>exact .consS (.inl rfl) (ih off (by simpa using hc))
   exact key cs off hc
  ·simp only[aD,hi,Tv];exact be rfl
 have h9:off<cs.length:=(SY.1 hc).1
 have h2:=zi (s:=s) (h:=aD h id (.box (cs.set off (.own (.sl e (List.replicate n .sh)) (.slice []))))) (id:=id) (f:=f) (off:=off) (n:=n) (e:=e) (l:=([]:List Unit)) (H:=fun _=>List.replicate n .any) (by simp only[aD,T6];rfl) (by rw[List.getElem?_set_self h9];rfl) A rfl oS rfl
 refine h1.trans ?_
 have e1:aD (aD (hT f .any (aD h id (.box (cs.set off (.own (.sl e (List.replicate n .sh)) (.slice [])))))) id (.box ((ee f .any (cs.set off (.own (.sl e (List.replicate n .sh)) (.slice [])))).set off (.vec f)))) f (.vec e n (bG (fun _=>List.replicate n .any) ([]:List Unit)))=aD (aD (hT f .any h) id (.box V)) f (.vec e n []):=by
  funext i
  simp only[aD,hT]
  by_cases hi:i=f
  ·simp[hi,bG]
  ·by_cases r0:i=id
   ·simp only[r0,A,Tv,T6]
    rw[<-o]
    congr 1
    have:=HL f .any (.own (.sl e (List.replicate n .sh)) (.slice [])) cs off
    simp only[fS] at this
    rw[<-this,List.set_set]
   ·simp[hi,r0]
 rw[e1] at h2
 exact h2
theorem d3 {l:List α} (hh:h id= .box cs) (hc:cs[off]?=some (.vec f)) (A:id≠f) (hj:h f= .vec e n rows) (hr:iv rows (bG H l)) (I:∀ a,(H a).length=n) (o:(ee f .any cs).set off (.own (.sl e (List.replicate n .sh)) (.slice (l.map H)))=V):
  cS ⟨s,h⟩ ⟨eC f .any s,aD (aD (hT f .any h) id (.box V)) f .dead⟩:=by
 subst o
 have h1:cS ⟨s,h⟩ ⟨s,aD h f (.vec e n (bG H l))⟩:=xd (fun _=> .inl rfl) fun i=>by
  by_cases hi:i=f
  ·subst hi;simp only[aD,T6,hj];exact jV hr
  ·simp only[aD,hi,Tv];exact be rfl
 have h2:=Fu (σ:=⟨s,aD h f (.vec e n (bG H l))⟩) (id:=id) (g:=f) (p:= .b off) (m:= .sl e (List.replicate n .sh)) (d:= .slice (l.map H)) (ch:= .vec e n (bG H l)) (mk:= .vec) A
  (by simp only[cL,T9,tD I]) (by intro r hr;obtain⟨a,_,rfl⟩:=Tu.1 hr;simp[I]) (by simp only[aD,A,Tv,hh,uJ,hc]) (by simp only[aD,T6])
 have e1:vn ⟨s,aD h f (.vec e n (bG H l))⟩ id (.b off) f (.sl e (List.replicate n .sh)) (.slice (l.map H))=⟨eC f .any s,aD (aD (hT f .any h) id (.box ((ee f .any cs).set off (.own (.sl e (List.replicate n .sh)) (.slice (l.map H)))))) f .dead⟩:=by
  simp only[vn,aD,A,Tv,hh,A3,GE]
  congr 1
  funext i
  by_cases hi:i=f
  ·subst hi;simp only[aD,T6]
  ·by_cases r0:i=id
   ·subst r0;simp only[aD,hi,Tv,T6]
   ·simp only[aD,hi,r0,Tv,hT]
 rw[e1] at h2
 exact h1.trans h2
theorem GV (hh:h id= .box cs) (hc:bw cs V):cS ⟨s,h⟩ ⟨s,aD h id (.box V)⟩:=xd (fun _=> .inl rfl) fun i=>by
 by_cases hi:i=id
 ·subst hi;simp only[aD,T6,hh];exact H7 hc
 ·simp only[aD,hi,Tv];exact be rfl
theorem Cp {Y:Type} {r:R} {a:Option Y} {k:Y->Option R} {args:List SX} {E:Y->SV} {G:Y->List DV} {d b:List DV} (Z:a.bind k=some r) (h7:cS ⟨s,h⟩ ⟨p,h1⟩) (hx:args.map (ev p)= .ref id 0::gs) (r2:SV.toDVs gs=some b) (hh:h1 id= .box cs) (r4:bw cs (d7 ms d)) (h8:d.length=ms.length) (hs:∀ y,a=some y->bB P f (.own (.pt ms) (.ptr d)::as.map .d) (E y) (.own (.pt ms) (.ptr (G y))::as.map .d)) (J:b=as) (c:∀ y,(E y).closed=true/\(E y).nOwn=0/\(G y).length=ms.length) (hk:∀ y,k y=some r->a6 P K sos ⟨aD p dst (E y),aD h1 id (.box (d7 ms (G y)))⟩):a6 P K (.p (some dst) (.f f) args::sos) ⟨s,h⟩:=by
 subst J
 cases hy:a with
 |none=>rw[hy] at Z;cases Z
 |some y=>
  rw[hy] at Z
  obtain⟨c1,z,u⟩:=c y
  have s4:∀ (l:List SX) (h':Nat->Ch),l.map (ev (St.s ⟨p,h'⟩))=l.map (ev p):=fun _ _=>rfl
  refine Rk (h5:=⟨p,aD h1 id (.box (d7 ms d))⟩) (L:=[(id,.box (d7 ms (G y)))]) (h7.trans (GV hh r4)) (hs y hy) c1 ?_ (F:=aD p dst (E y)) (h':=aD h1 id (.box (d7 ms (G y)))) ?_ (hk y Z)
  ·rw[s4,hx]
   exact .ptr (ch:= .box (d7 ms d)) (mk:=fun id=> .ref id 0) (ch':= .box (d7 ms (G y))) (mk':=fun id=> .ref id 0) rfl (by simp only[eQ];exact h8) rfl (by simp only[aD,T6]) oS (rU r2)
  ·simp only[takes,z,T6,kd]
   congr 2
   funext i
   by_cases hi:i=id
   ·simp[aD,hi]
   ·simp[aD,hi]
theorem Jo (Z:some (a,D)=some r) (h7:cS σ ⟨p,h1⟩) (hh:h1 0= .box cs) (r4:bw cs (d7 ms (G (a,D)))) (h8:∀ x,(G x).length=ms.length) (hg:gB N ⟨p,h1⟩ n= .ref 0 0::gs) (r2:SV.toDVs gs=some as) (hq:Hg ⟨p,aD h1 0 (.box (d7 ms (G (a,D))))⟩ qs=some xs) (T:SV.toDVs xs=some O) (J:E (a,D)=mj (O.map .d)):z_ N n qs (E r) (.own (.pt ms) (.ptr (G r))::as.map .d) .ret σ:=by
 cases Z
 have S:∀ (n:Nat) (h':Nat->Ch),gB N ⟨p,h'⟩ n=gB N ⟨p,h1⟩ n:=by
  intro n
  induction n with
  |zero=>intro _;rfl
  |succ n ih=>intro h';simp only[gB,ih h']
 have Y:O.length=xs.length:=by
  have:∀ {xs:List SV} {O:List DV},SV.toDVs xs=some O->O.length=xs.length:=by
   intro xs
   induction xs with
   |nil=>intro O hd;simp only[SV.toDVs,SN] at hd;subst hd;rfl
   |cons x xs ih=>
    intro O hd
    unfold SV.toDVs at hd
    split at hd
    ·rename_i d i h1 h2
     simp only[SN] at hd;subst hd
     simp[ih h2]
    ·cases hd
  exact this T
 refine⟨⟨p,aD h1 0 (.box (d7 ms (G (a,D))))⟩,h7.trans (GV hh r4),xs,O.map .d,[0],hq,J,by simp[Y], ?_⟩
 rw[S,hg]
 have R:SV.toDVs (gs++xs)=some (as++O):=by
  have:∀ {gs:List SV} {as:List DV},SV.toDVs gs=some as->SV.toDVs (gs++xs)=some (as++O):=by
   intro gs
   induction gs with
   |nil=>intro as hd;simp only[SV.toDVs,SN] at hd;subst hd;simpa using T
   |cons g gs ih=>
    intro as hd
    unfold SV.toDVs at hd
    split at hd
    ·rename_i d b h1 h2
     simp only[SN] at hd;subst hd
     simp only[S_,SV.toDVs,h1,ih h2]
    ·cases hd
  exact this r2
 rw[S_,S_,<-UR]
 exact .own (ch:= .box (d7 ms (G (a,D)))) (mk:=fun id=> .ref id 0) rfl (by simp only[eQ];exact h8 _) (by simp only[aD,T6]) oS (Ac R)
theorem CO (Z:some (a,D)=some r) (h7:cS σ ⟨p,h1⟩) (hh:h1 0= .box cs) (r4:bw cs (d7 ms (G (a,D)))) (h8:∀ x,(G x).length=ms.length) (hg:gB N ⟨p,h1⟩ n= .ref 0 0::gs) (r2:SV.toDVs gs=some as) (hq:Hg ⟨p,aD h1 0 (.box (d7 ms (G (a,D))))⟩ qs=some xs) (T:SV.toDVs xs=some O) (J:E (a,D)=mj (O.map .d)):z_ N n qs (E r) (.own (.pt ms) (.ptr (G r))::as.map .d) .normal σ:=by
 cases Z
 have S:∀ (n:Nat) (h':Nat->Ch),gB N ⟨p,h'⟩ n=gB N ⟨p,h1⟩ n:=by
  intro n
  induction n with
  |zero=>intro _;rfl
  |succ n ih=>intro h';simp only[gB,ih h']
 have Y:O.length=xs.length:=by
  have:∀ {xs:List SV} {O:List DV},SV.toDVs xs=some O->O.length=xs.length:=by
   intro xs
   induction xs with
   |nil=>intro O hd;simp only[SV.toDVs,SN] at hd;subst hd;rfl
   |cons x xs ih=>
    intro O hd
    unfold SV.toDVs at hd
    split at hd
    ·rename_i d i h1 h2
     simp only[SN] at hd;subst hd
     simp[ih h2]
    ·cases hd
  exact this T
 refine⟨⟨p,aD h1 0 (.box (d7 ms (G (a,D))))⟩,h7.trans (GV hh r4),xs,O.map .d,[0],hq,J,by simp[Y], ?_⟩
 rw[S,hg]
 have R:SV.toDVs (gs++xs)=some (as++O):=by
  have:∀ {gs:List SV} {as:List DV},SV.toDVs gs=some as->SV.toDVs (gs++xs)=some (as++O):=by
   intro gs
   induction gs with
   |nil=>intro as hd;simp only[SV.toDVs,SN] at hd;subst hd;simpa using T
   |cons g gs ih=>
    intro as hd
    unfold SV.toDVs at hd
    split at hd
    ·rename_i d b h1 h2
     simp only[SN] at hd;subst hd
     simp only[S_,SV.toDVs,h1,ih h2]
    ·cases hd
  exact this r2
 rw[S_,S_,<-UR]
 exact .own (ch:= .box (d7 ms (G (a,D)))) (mk:=fun id=> .ref id 0) rfl (by simp only[eQ];exact h8 _) (by simp only[aD,T6]) oS (Ac R)
end
theorem lG {x:SV} {m:cO} {d':DV} (h1:x= .own m d) (h2:d=d'):Sa x (.own m d'):=by rw[h1,h2];exact .inl (.inl rfl)
theorem Cq:SV.tup []=mj (([]:List DV).map .d):=rfl
theorem Qy {e:DV} (h:d=e):SV.d e=mj ([d].map .d):=by rw[h];rfl
section
variable {P:Program} {x:SC} {Q:AX->St->Prop} {s:Nat->SV} {h:Nat->Ch} {K:St->Prop} {sos:List SO} {α:Type} {H:α->List DV}
theorem Qz (hh:h id= .box cs) (hc:cs[off]?=some .nils) (A:id≠f) (o:(ee f .any cs).set off (.vec f)=V) (hk:AW P x Q ⟨eC f .any s,aD (aD (hT f .any h) id (.box V)) f (.vec e n [])⟩):AW P x Q ⟨s,h⟩:=Ft (M6 hh hc A o) hk
def RA (H:α->List DV):Option α->DV
 |none=> .raw (.pointer none)
 |some a=> .ptr (H a)
theorem OO {r:R} {l l2:List α} {f:List (List SV)} {sz:Nat} {x y:SX} {late:List (Nat×Nat×wh)} {kk:Option R} (Z:iZ (sf (l.length+l2.length)) kk=some r) (hx:ev s x= .vec id) (hh:h id= .vec e sz rows) (z:rows=bG H l) (hy:yR (ev s y)=some f) (b:f=bG H l2) (I:∀ a,(H a).length=sz) (hl:AL ⟨aD (eC id .any s) dst (.vec id),aD (hT id .any h) id (.vec e sz (bG H (l++l2)))⟩ late) (hk:kk=some r->a6 P K sos ⟨aD (eC id .any s) dst (.vec id),aD (hT id .any h) id (.vec e sz (bG H (l++l2)))⟩):a6 P K (.x dst (.app e sz x y) late::sos) ⟨s,h⟩:=by
 subst z b
 cases c:sf (l.length+l2.length) with
 |none=>rw[c] at Z;cases Z
 |some u=>
  rw[c] at Z
  have h8:=Bg.1 c
  refine N4 (p:=e=e/\sz=sz/\(∀ r∈bG H l2,r.length=sz)/\(bG H l).length+(bG H l2).length<=137438953472) ?_ ⟨rfl,rfl,D3 I l2,by simp only[xe];exact h8⟩ hl (hk Z)
  simp only[wr,hx,hy,hh,cZ,St.swap,Ce,uM]
end
def OP (N:Nat) (as:List DV):Nat->SV:=fun j=>if j=0 then .ref 0 0 else if j<N then(match as[j - 1]? with|some d=> .d d|none=> .d .any) else if j=N then .ref 0 0 else match as[j - N - 1]? with|some d=> .d d|none=> .d .any
theorem jr {P:Program} {k:Nat} {fn:Func} {x:SC} {cs:List DV} {C:SV} {outs:List SV} (hf:P.funcs[f]?=some fn) (o:fits P f fn x qs k=true) (S:fn.ntmps=N) (hk:as.length+1=k) (O:outs.length=k) (r6:0<N) (h:AW P x (z_ N k qs C outs) ⟨OP N as,aD (fun _=> .dead) 0 (.box (d7 ms cs))⟩):bB P f (.own (.pt ms) (.ptr cs)::as.map .d) C outs:=by
 subst S hk
 have h8:(SV.own (.pt ms) (.ptr cs)::as.map SV.d).length=as.length+1:=by simp
 refine za (x:=x) (qs:=qs) hf (by rw[h8];exact o) ?_ (by rw[h8];exact O) ?_
 ·simp only[Uy,HY,cL,Option.isSome_some,S8]
  rw[Tp]
  intro y hy
  obtain⟨d,_,rfl⟩:=Tu.1 hy
  rfl
 ·rw[h8]
  have e1:DK fn.ntmps (.own (.pt ms) (.ptr cs)::as.map .d)=OP fn.ntmps as:=by
   funext j
   unfold DK OP
   by_cases h0:j=0
   ·subst h0;simp[r6,yC,cL]
   ·obtain⟨i,rfl⟩:∃ i,j=i+1:=⟨j - 1,by omega⟩
    by_cases h9:i+1<fn.ntmps
    ·simp only[h9,T6,TS,Tk,Un]
     rw[Ul oM]
     cases as[i]?<;>simp[yC]
    ·simp only[h9,Tv]
     rw[Ul oM]
     by_cases J:i+1=fn.ntmps
     ·simp only[J,T6,Va,Uq];simp[yC,cL]
     ·obtain⟨q,hq⟩:∃ q,i+1 - fn.ntmps=q+1:=⟨i+1 - fn.ntmps - 1,by omega⟩
      simp only[J,Tv,hq,TS,Tk,Un]
      cases as[q]?<;>simp[yC]
  have e2:ET (.own (.pt ms) (.ptr cs)::as.map .d)=aD (fun _=> .dead) 0 (.box (d7 ms cs)):=by
   funext j
   unfold ET
   cases j with
   |zero=>simp[aD,ES,cL]
   |succ j=>
    simp only[TS,Tk,aD]
    rw[Ul oM]
    cases as[j]?<;>simp[ES]
  rw[e1,e2];exact h
attribute [push_cast] Lj M5 OP gB Hg RV.sv
