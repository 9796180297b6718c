/-
  My text.
-/
import Derived.Test.YtgocgdgknpdknaaGreatDoorSXEngI
namespace Go.Proofs.YtgocgdgknpdknaaGreatDoor
set_option linter.unusedVariables false
open Go.RowKit
def zS (m:bQ) (d:DV):SV:=
 match m with
 | .sh=> .d d
 | .sl e ms=> .own (.sl e ms) d
 | .pt ms=> .own (.pt ms) d
 | .mp kk m=> .own (.mp kk m) d
 | .bld T e=> .own (.bld T e) d
def jf (ms:List bQ) (ds:List DV):List SV:=List.zipWith zS ms ds
def b_:bQ->DV->Option (Ch×(Nat->SV))
 | .sl e ms,.slice rows=>some (.vec e ms.length (rows.map (jf ms)),.vec)
 | .pt ms,.ptr cs=>some (.box (jf ms cs),fun id=> .ref id 0)
 | .mp kk m,.map ks vs=>some (.map kk (ks.zip (vs.map (zS m))),.mp)
 | .bld T e,.str bs=>some (.bld T e bs,fun id=> .ref id 0)
 |_,_=>none
section
variable {w:World} {M:Nat->Prop} {κ:Nat->Value}
theorem uf {m:bQ} {d:DV} {u:Value} {F:List Nat}:aJ w M κ (zS m d) u F↔ef w M m d u F:=by
 cases m with
 |sh=>simp only[zS,aJ,ae,ef]
 |_=>simp only[zS,aJ]
theorem qS:∀ {ms:List bQ} {ds:List DV} {us:List Value} {F:List Nat},ds.length=ms.length->(aj w M κ (jf ms ds) us F↔fB w M ms ds us F)
 |[],ds,us,F,h=>by
  have:ds=[]:=J7.1 h
  subst this
  simp[jf,aj,fB]
 |m::ms,[],us,F,h=>by simp at h
 |m::ms,d::ds,us,F,h=>by
  have ih:=fun us F=>qS (ms:=ms) (ds:=ds) (us:=us) (F:=F) (by simpa using h)
  unfold jf at *
  simp only[List.zipWith_cons_cons,aj,fB]
  constructor
  ·rintro⟨u,us',F1,F2,rfl,rfl,h1,h2⟩
   exact⟨d,ds,u,us',F1,F2,rfl,rfl,rfl,uf.1 h1,(ih us' F2).1 h2⟩
  ·rintro⟨d',ds',u,us',F1,F2,h0,rfl,rfl,h1,h2⟩
   simp only[Km] at h0
   obtain⟨rfl,rfl⟩:=h0
   exact⟨u,us',F1,F2,rfl,rfl,uf.2 h1,(ih us' F2).2 h2⟩
theorem A2 {ms:List bQ} {ds:List DV} (h:ds.length=ms.length):(jf ms ds).length=ms.length:=by simp[jf,h]
theorem qT {ms:List bQ}:∀ {rows:List (List DV)} {xs:List Value} {G:List Nat},(∀ r∈rows,r.length=ms.length)->(aj w M κ (rows.map (jf ms)).flatten xs G↔gc (fun r ys G'=>fB w M ms r ys G') rows xs G)
 |[],xs,G,_=>by simp[aj,gc]
 |r::rows,xs,G,h=>by
  have hr:=h r oS
  have ih:=fun xs G=>qT (rows:=rows) (xs:=xs) (G:=G) (fun r hr=>h r (by simp[hr]))
  simp only[JZ,Kv,gc]
  constructor
  ·intro hg
   obtain⟨G1,G2,rfl,h1,h2⟩:=hg.split
   exact⟨_,_,G1,G2,(KB _ _).symm,rfl,(qS hr).1 h1,(ih _ _).1 h2⟩
  ·rintro⟨ys,zs,G1,G2,rfl,rfl,h1,h2⟩
   exact((qS hr).2 h1).append ((ih _ _).2 h2)
theorem tl {kk:KK} {m:bQ}:∀ {ks vs:List DV} {es:List MapEntry} {G:List Nat},vs.length=ks.length->(bi w M κ kk (ks.zip (vs.map (zS m))) es G↔ne (fun d v G'=>ef w M m d v G') kk ks vs es G)
 |[],vs,es,G,h=>by
  have:vs=[]:=J7.1 h
  subst this
  simp[bi,ne]
 |k::ks,[],es,G,h=>by simp at h
 |k::ks,d::vs,es,G,h=>by
  have ih:=fun es G=>tl (kk:=kk) (m:=m) (ks:=ks) (vs:=vs) (es:=es) (G:=G) (by simpa using h)
  simp only[JZ,Lt,bi,ne]
  constructor
  ·rintro⟨e,rest,F1,F2,rfl,rfl,h1,h2,h3,h4⟩
   exact⟨d,vs,e,rest,F1,F2,rfl,rfl,rfl,h1,h2,uf.1 h3,(ih _ _).1 h4⟩
  ·rintro⟨d',vs',e,rest,F1,F2,h0,rfl,rfl,h1,h2,h3,h4⟩
   simp only[Km] at h0
   obtain⟨rfl,rfl⟩:=h0
   exact⟨e,rest,F1,F2,rfl,rfl,h1,h2,uf.2 h3,(ih _ _).2 h4⟩
theorem ne.len {R:DV->Value->List Nat->Prop} {kk:KK}:∀ {ks vs:List DV} {es:List MapEntry} {G:List Nat},ne R kk ks vs es G->vs.length=ks.length
 |[],vs,es,G,h=>by simp[ne] at h;simp[h]
 |k::ks,vs,es,G,h=>by
  simp only[ne] at h
  obtain⟨d,ds',e,es',G1,G2,rfl,_,_,_,_,_,h6⟩:=h
  simp[ne.len h6]
theorem fB.len:∀ {ms:List bQ} {ds:List DV} {vs:List Value} {F:List Nat},fB w M ms ds vs F->ds.length=ms.length
 |[],ds,vs,F,h=>by simp[fB] at h;simp[h]
 |m::ms,ds,vs,F,h=>by
  simp only[fB] at h
  obtain⟨d,ds',v,vs',F1,F2,rfl,_,_,_,h4⟩:=h
  simp[fB.len h4]
def dx:bQ->DV->Prop
 | .sl _ ms,.slice rows=>∀ r∈rows,r.length=ms.length
 | .pt ms,.ptr cs=>cs.length=ms.length
 | .mp _ _,.map ks vs=>vs.length=ks.length
 |_,_=>True
theorem qU {m:bQ} {d:DV} {u:Value} {F:List Nat} {id:Nat} {ch:Ch} {mk:Nat->SV} (hs:dx m d) (h:b_ m d=some (ch,mk)) (hk:κ id=u):kg w M κ id ch F↔ef w M m d u F:=by
 subst hk
 unfold b_ at h
 split at h
 ·rename_i e ms rows
  simp only[JN,JQ] at h
  obtain⟨rfl,rfl⟩:=h
  simp only[dx] at hs
  simp only[kg,ef]
  constructor
  ·rintro⟨xs,G,h1,h2,h3,h4,rfl⟩
   exact⟨rows,xs,G,rfl,by simpa using h1,h2,hs,(qT hs).1 h4,rfl⟩
  ·rintro⟨rows',xs,G,h0,h1,h2,h3,h4,rfl⟩
   simp only[DV.slice.injEq] at h0;subst h0
   exact⟨xs,G,by simpa using h1,h2,fun r hr=>by
    obtain⟨q,hq,rfl⟩:=Kw.1 hr
    exact A2 (hs q hq),(qT hs).2 h4,rfl⟩
 ·rename_i ms cs
  simp only[JN,JQ] at h
  obtain⟨rfl,rfl⟩:=h
  simp only[dx] at hs
  simp only[kg,ef]
  constructor
  ·rintro⟨b,T,vs,G,h1,h2,h3,h4,rfl⟩
   exact⟨cs,b,T,vs,G,rfl,h1,h2,h3,(qS hs).1 h4,rfl⟩
  ·rintro⟨cs',b,T,vs,G,h0,h1,h2,h3,h4,rfl⟩
   simp only[DV.ptr.injEq] at h0;subst h0
   exact⟨b,T,vs,G,h1,h2,h3,(qS hs).2 h4,rfl⟩
 ·rename_i kk m ks vs
  simp only[JN,JQ] at h
  obtain⟨rfl,rfl⟩:=h
  simp only[dx] at hs
  simp only[kg,ef]
  constructor
  ·rintro⟨r,es,clock,G,h1,h2,hB,h3,rfl⟩
   exact⟨ks,vs,r,es,clock,G,rfl,h1,h2,hB,(tl hs).1 h3,rfl⟩
  ·rintro⟨ks',vs',r,es,clock,G,h0,h1,h2,hB,h3,rfl⟩
   simp only[DV.map.injEq] at h0;obtain⟨rfl,rfl⟩:=h0
   exact⟨r,es,clock,G,h1,h2,hB,(tl hs).2 h3,rfl⟩
 ·rename_i T e bs
  simp only[JN,JQ] at h
  obtain⟨rfl,rfl⟩:=h
  simp only[kg,ef]
  constructor
  ·exact fun h=>⟨bs,rfl,h⟩
  ·rintro⟨bs',h0,h1⟩
   simp only[DV.str.injEq] at h0;subst h0
   exact h1
 ·cases h
theorem ef.shape {m:bQ} {d:DV} {u:Value} {F:List Nat} (h:ef w M m d u F):dx m d:=by
 cases m with
 |sh=>simp[dx]
 |sl e ms=>
  simp only[ef] at h
  obtain⟨rows,xs,G,rfl,_,_,h3,_⟩:=h
  exact h3
 |pt ms=>
  simp only[ef] at h
  obtain⟨cs,b,T,vs,G,rfl,_,_,_,h4,_⟩:=h
  exact h4.len
 |mp kk m=>
  simp only[ef] at h
  obtain⟨ks,ds,r,es,clock,G,rfl,_,_,_,h4,_⟩:=h
  exact h4.len
 |bld T e=>simp[dx]
theorem A3 {m:bQ} {d:DV} {u:Value} {F:List Nat} {ch:Ch} {mk:Nat->SV} (h:ef w M m d u F) (ho:b_ m d=some (ch,mk)):u.oneCell'=true/\∀ (κ:Nat->Value) (id:Nat),κ id=u->ae w M κ (mk id) u:=by
 unfold b_ at ho
 split at ho
 ·simp only[JN,JQ] at ho
  obtain⟨rfl,rfl⟩:=ho
  simp only[ef] at h
  obtain⟨rows',xs,G,_,h1,_⟩:=h
  refine⟨?_,fun κ id hk=>by simp only[ae];exact hk.symm⟩
  rcases h1.2 with⟨rfl,_⟩|⟨g,cap,cur,rfl,_⟩<;>rfl
 ·simp only[JN,JQ] at ho
  obtain⟨rfl,rfl⟩:=ho
  simp only[ef] at h
  obtain⟨cs',b,T,vs,G,_,rfl,_⟩:=h
  exact⟨rfl,fun κ id hk=>by simp only[ae];exact⟨b,hk,rfl⟩⟩
 ·simp only[JN,JQ] at ho
  obtain⟨rfl,rfl⟩:=ho
  simp only[ef] at h
  obtain⟨ks',vs',r,es,clock,G,_,rfl,_⟩:=h
  exact⟨rfl,fun κ id hk=>by simp only[ae];exact hk.symm⟩
 ·simp only[JN,JQ] at ho
  obtain⟨rfl,rfl⟩:=ho
  simp only[ef] at h
  obtain⟨bs',_,b,p,u',rfl,_⟩:=h
  exact⟨rfl,fun κ id hk=>by simp only[ae];exact⟨b,hk,rfl⟩⟩
 ·cases ho
end
section
variable {w:World} {M:Nat->Prop} {κ:Nat->Value}
end
section
variable {c:Cx} {σ:St} {κ:Nat->Value} {φ:Nat->List Nat} {a:Act} {w:World}
theorem Cf {m:bQ} {d:DV} {ch:Ch} {mk:Nat->SV} {M:Nat->Prop} {id:Nat} {u:Value} {F:List Nat} (ho:b_ m d=some (ch,mk)) (hs:aJ w M κ (mk id) u F) (hc:kg w M κ id ch (φ id)):κ id=u/\F=[]:=by
 unfold b_ at ho
 split at ho
 ·simp only[JN,JQ] at ho
  obtain⟨rfl,rfl⟩:=ho
  simp only[aJ,ae] at hs
  exact⟨hs.2.symm,hs.1⟩
 ·simp only[JN,JQ] at ho
  obtain⟨rfl,rfl⟩:=ho
  simp only[aJ,ae] at hs
  obtain⟨rfl,b,h1,h2⟩:=hs
  exact⟨h1.trans h2.symm,rfl⟩
 ·simp only[JN,JQ] at ho
  obtain⟨rfl,rfl⟩:=ho
  simp only[aJ,ae] at hs
  exact⟨hs.2.symm,hs.1⟩
 ·simp only[JN,JQ] at ho
  obtain⟨rfl,rfl⟩:=ho
  simp only[aJ,ae] at hs
  obtain⟨rfl,b,h1,h2⟩:=hs
  exact⟨h1.trans h2.symm,rfl⟩
 ·cases ho
end
