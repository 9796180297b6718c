/-
  My text.
-/
import Derived.Test.YtgocgdgknpdknaaGreatDoorSXEngX
namespace Go.Proofs.YtgocgdgknpdknaaGreatDoor
set_option linter.unusedSimpArgs false
set_option linter.unusedVariables false
open Go.RowKit
theorem Eb (m:bQ) (ms:List bQ) (d:DV) (ds:List DV):jf (m::ms) (d::ds)=zS m d::jf ms ds:=rfl
theorem FF:jf [] []=[]:=rfl
theorem uk {h:Nat->Ch}:∀ {xs:List SV} {ds:List DV},SV.toDVs xs=some ds->pZ h xs (ds.map .d) []
 |[],ds,hd=>by simp only[SV.toDVs,JN] at hd;subst hd;exact .nil
 |x::xs,ds,hd=>by
  unfold SV.toDVs at hd
  split at hd
  ·rename_i d ds' h1 h2
   simp only[JN] at hd;subst hd
   exact .data h1 (uk h2)
  ·cases hd
theorem py {h:Nat->Ch}:∀ {xs:List SV} {ds:List DV},SV.toDVs xs=some ds->HandL h xs (ds.map .d) (ds.map .d) []
 |[],ds,hd=>by simp only[SV.toDVs,JN] at hd;subst hd;exact .nil
 |x::xs,ds,hd=>by
  unfold SV.toDVs at hd
  split at hd
  ·rename_i d ds' h1 h2
   simp only[JN] at hd;subst hd
   exact .data h1 (py h2)
  ·cases hd
section
variable {P:Program} {x:SC} {Q:AX->St->Prop} {σ:St} {s:Nat->SV} {h:Nat->Ch} {K:St->Prop} {sos:List SO} {α:Type} {row:α->List DV}
theorem Db {id:Nat} {cs cs':List SV} (hh:h id= .box cs) (hc:aU cs cs'):hY ⟨s,h⟩ ⟨s,aI h id (.box cs')⟩:=FE (fun _=> .inl rfl) fun i=>by
 by_cases hi:i=id
 ·subst hi;simp only[aI,K4,hh];exact FC hc
 ·simp only[aI,hi,KG];exact cK rfl
theorem GK {Y R:Type} {r:R} {a:Option Y} {k:Y->Option R} {dst:Nat} {f id:Nat} {args:List SX} {ms:List bQ} {E:Y->SV} {G:Y->List DV} {ci as0 as:List DV} {gs cs:List SV} {s1:Nat->SV} {h1:Nat->Ch}
  (hm:a.bind k=some r) (hcl:hY ⟨s,h⟩ ⟨s1,h1⟩) (hx:args.map (ev s1)= .ref id 0::gs) (hgs:SV.toDVs gs=some as0) (hh:h1 id= .box cs) (hcs:aU cs (jf ms ci)) (hlen:ci.length=ms.length)
  (hs:∀ y,a=some y->cr P f (.own (.pt ms) (.ptr ci)::as.map .d) (E y) (.own (.pt ms) (.ptr (G y))::as.map .d)) (he:as0=as) (henc:∀ y,(E y).closed=true/\(E y).nOwn=0/\(G y).length=ms.length)
  (hk:∀ y,k y=some r->aR P K sos ⟨aI s1 dst (E y),aI h1 id (.box (jf ms (G y)))⟩):aR P K (.p (some dst) (.f f) args::sos) ⟨s,h⟩:=by
 subst he
 cases hy:a with
 |none=>rw[hy] at hm;cases hm
 |some y=>
  rw[hy] at hm
  obtain⟨c1,c2,c3⟩:=henc y
  have hmap:∀ (l:List SX) (h':Nat->Ch),l.map (ev (St.s ⟨s1,h'⟩))=l.map (ev s1):=fun _ _=>rfl
  refine Jk (σ1:=⟨s1,aI h1 id (.box (jf ms ci))⟩) (L:=[(id,.box (jf ms (G y)))]) (hcl.trans (Db hh hcs)) (hs y hy) c1 ?_ (s':=aI s1 dst (E y)) (h':=aI h1 id (.box (jf ms (G y)))) ?_ (hk y hm)
  ·rw[hmap,hx]
   exact .ptr (ch:= .box (jf ms ci)) (mk:=fun id=> .ref id 0) (ch':= .box (jf ms (G y))) (mk':=fun id=> .ref id 0) rfl (by simp only[dx];exact hlen) rfl (by simp only[aI,K4]) oS (py hgs)
  ·simp only[takes,c2,K4,hE]
   congr 2
   funext i
   by_cases hi:i=id
   ·simp[aI,hi]
   ·simp[aI,hi]
theorem Cu {A X:Type} {r:A×X} {a:A} {x0:X} {N n:Nat} {qs:List RV} {ms:List bQ} {G:A×X->List DV} {E:A×X->SV} {as ds:List DV} {gs cs xs:List SV} {s1:Nat->SV} {h1:Nat->Ch}
  (hm:some (a,x0)=some r) (hcl:hY σ ⟨s1,h1⟩) (hh:h1 0= .box cs) (hcs:aU cs (jf ms (G (a,x0)))) (hlen:∀ x,(G x).length=ms.length) (hg:mf N ⟨s1,h1⟩ n= .ref 0 0::gs) (hgs:SV.toDVs gs=some as)
  (hq:Fp ⟨s1,aI h1 0 (.box (jf ms (G (a,x0))))⟩ qs=some xs) (hxs:SV.toDVs xs=some ds) (he:E (a,x0)=qX (ds.map .d)):z1 N n qs (E r) (.own (.pt ms) (.ptr (G r))::as.map .d) .ret σ:=by
 cases hm
 have hgh:∀ (n:Nat) (h':Nat->Ch),mf N ⟨s1,h'⟩ n=mf N ⟨s1,h1⟩ n:=by
  intro n
  induction n with
  |zero=>intro _;rfl
  |succ n ih=>intro h';simp only[mf,ih h']
 have hxl:ds.length=xs.length:=by
  have:∀ {xs:List SV} {ds:List DV},SV.toDVs xs=some ds->ds.length=xs.length:=by
   intro xs
   induction xs with
   |nil=>intro ds hd;simp only[SV.toDVs,JN] at hd;subst hd;rfl
   |cons x xs ih=>
    intro ds hd
    unfold SV.toDVs at hd
    split at hd
    ·rename_i d ds' h1 h2
     simp only[JN] at hd;subst hd
     simp[ih h2]
    ·cases hd
  exact this hxs
 refine⟨⟨s1,aI h1 0 (.box (jf ms (G (a,x0))))⟩,hcl.trans (Db hh hcs),xs,ds.map .d,[0],hq,he,by simp[hxl], ?_⟩
 rw[hgh,hg]
 have hall:SV.toDVs (gs++xs)=some (as++ds):=by
  have:∀ {gs:List SV} {as:List DV},SV.toDVs gs=some as->SV.toDVs (gs++xs)=some (as++ds):=by
   intro gs
   induction gs with
   |nil=>intro as hd;simp only[SV.toDVs,JN] at hd;subst hd;simpa using hxs
   |cons g gs ih=>
    intro as hd
    unfold SV.toDVs at hd
    split at hd
    ·rename_i d as' h1 h2
     simp only[JN] at hd;subst hd
     simp only[J5,SV.toDVs,h1,ih h2]
    ·cases hd
  exact this hgs
 rw[J5,J5,<-LH]
 exact .own (ch:= .box (jf ms (G (a,x0)))) (mk:=fun id=> .ref id 0) rfl (by simp only[dx];exact hlen _) (by simp only[aI,K4]) oS (uk hall)
end
theorem Js:SV.tup []=qX (([]:List DV).map .d):=rfl
theorem GL {d e:DV} (h:d=e):SV.d e=qX ([d].map .d):=by rw[h];rfl
section
variable {P:Program} {x:SC} {Q:AX->St->Prop} {s:Nat->SV} {h:Nat->Ch} {K:St->Prop} {sos:List SO} {α:Type} {row:α->List DV}
def IY (row:α->List DV):Option α->DV
 |none=> .raw (.pointer none)
 |some a=> .ptr (row a)
end
def Cv (N:Nat) (as:List DV):Nat->SV:=fun j=>if j=0 then .ref 0 0 else if j<N then(match as[j - 1]? with|some d=> .d d|none=> .d .any) else if j=N then .ref 0 0 else match as[j - N - 1]? with|some d=> .d d|none=> .d .any
theorem ot {P:Program} {f N k:Nat} {fn:Func} {x:SC} {qs:List RV} {ms:List bQ} {cs:List DV} {as:List DV} {res:SV} {outs:List SV} (hf:P.funcs[f]?=some fn) (hfit:fits P f fn x qs k=true) (hN:fn.ntmps=N) (hk:as.length+1=k) (hol:outs.length=k) (hpos:0<N)
  (h:AW P x (z1 N k qs res outs) ⟨Cv N as,aI (fun _=> .dead) 0 (.box (jf ms cs))⟩):cr P f (.own (.pt ms) (.ptr cs)::as.map .d) res outs:=by
 subst hN hk
 have hlen:(SV.own (.pt ms) (.ptr cs)::as.map SV.d).length=as.length+1:=by simp
 refine tn (x:=x) (qs:=qs) hf (by rw[hlen];exact hfit) ?_ (by rw[hlen];exact hol) ?_
 ·simp only[Lk,y9,b_,Option.isSome_some,J6]
  rw[Ke]
  intro y hy
  obtain⟨d,_,rfl⟩:=Kw.1 hy
  rfl
 ·rw[hlen]
  have e1:xI fn.ntmps (.own (.pt ms) (.ptr cs)::as.map .d)=Cv fn.ntmps as:=by
   funext j
   unfold xI Cv
   by_cases h0:j=0
   ·subst h0;simp[hpos,qw,b_]
   ·obtain⟨i,rfl⟩:∃ i,j=i+1:=⟨j - 1,by omega⟩
    by_cases hlt:i+1<fn.ntmps
    ·simp only[hlt,K4,Kq,Kh,Li]
     rw[if_neg oM]
     cases as[i]?<;>simp[qw]
    ·simp only[hlt,KG]
     rw[if_neg oM]
     by_cases he:i+1=fn.ntmps
     ·simp only[he,K4,LK,K3];simp[qw,b_]
     ·obtain⟨q,hq⟩:∃ q,i+1 - fn.ntmps=q+1:=⟨i+1 - fn.ntmps - 1,by omega⟩
      simp only[he,KG,hq,Kq,Kh,Li]
      cases as[q]?<;>simp[qw]
  have e2:yy (.own (.pt ms) (.ptr cs)::as.map .d)=aI (fun _=> .dead) 0 (.box (jf ms cs)):=by
   funext j
   unfold yy
   cases j with
   |zero=>simp[aI,xH,b_]
   |succ j=>
    simp only[Kq,Kh,aI]
    rw[if_neg oM]
    cases as[j]?<;>simp[xH]
  rw[e1,e2];exact h
attribute [push_cast] Eb FF Cv mf Fp RV.sv
