/-
  My text.
-/
import Derived.Test.YtgmnipfafmphaaaGreatDoorSZEngK
namespace Go.Proofs.YtgmnipfafmphaaaGreatDoor
set_option linter.unusedSimpArgs false
set_option linter.unusedVariables false
open Go.RowKit
def Bt:Eg->List SX
 | .boxM x=>[x]
 | .st _ p v=>[p,v]
 | .app _ _ x y=>[x,y]
 | .appS _ x y=>[x,y]
 | .mkmap _=>[]
 | .mset _ m k v=>[m,k,v]
 | .trunc _ x hi=>[x,hi]
 | .slM _ _ xs=>xs
 | .bldM _ _=>[]
def m_ (d:Nat):Eg->Option Nat
 | .st _ _ _=>none
 | .mset _ _ _ _=>none
 |_=>some d
def ue:SO->Bool
 | .x _ _ _=>true
 | .q _ _ _ _=>true
 |_=>false
def bh:SO->Option Nat
 | .x d op _=>m_ d op
 | .q d _ _ _=>some d
 |so=>gH so
def KX:SO->List SX
 | .x _ op _=>Bt op
 | .q _ f args _=>f::args
 |so=>Dl so
def Ig (so:SO):Bool:=ue so||(gH so).isSome
open Classical in
noncomputable def kO (z:Nat->SV) (U:Nat->Prop) (s:Nat->SV):Nat->SV:=fun t=>if U t then z t else s t
theorem ef {z:Nat->SV} {U:Nat->Prop} {s:Nat->SV} {t:Nat} (h:¬ U t):kO z U s t=s t:=by unfold kO;simp[h]
theorem jy {z:Nat->SV} {U:Nat->Prop} {s:Nat->SV} {t:Nat} (h:U t):kO z U s t=z t:=by unfold kO;simp[h]
theorem yk {z:Nat->SV} {U:Nat->Prop} {s s':Nat->SV} (h:∀ t,¬ U t->s t=s' t):kO z U s=kO z U s':=by
 funext t
 by_cases hu:U t
 ·rw[jy hu,jy hu]
 ·rw[ef hu,ef hu,h t hu]
theorem jz {z:Nat->SV} {U:Nat->Prop} {s:Nat->SV} {x:SX} (h:∀ t,x= .t t->¬ U t):ev (kO z U s) x=ev s x:=by
 cases x with
 |t n=>exact ef (h n rfl)
 |c v=>rfl
 |f i=>rfl
theorem gS {z:Nat->SV} {U:Nat->Prop} {s:Nat->SV} {id d:Nat} {v:SV} (hz:∀ i t,cr i .any (z t)=z t):ak (ca id .any (kO z U s)) d v=kO z (fun t=>U t/\t≠d) (ak (ca id .any s) d v):=by
 funext t
 by_cases ht:t=d
 ·subst ht;rw[al,ef oS,al]
 ·rw[aP _ _ _ _ ht]
  by_cases hu:U t
  ·rw[jy (U:=fun t=>U t/\t≠d) ⟨hu,ht⟩];simp[ca,jy hu,hz]
  ·rw[ef (U:=fun t=>U t/\t≠d) (fun h=>hu h.1),aP _ _ _ _ ht];simp[ca,ef hu]
noncomputable def er (U:Nat->Prop) (s:Nat->SV):Nat->SV:=kO (fun _=> .d .any) U s
theorem wb {U:Nat->Prop} {s:Nat->SV} {t:Nat} (h:¬ U t):er U s t=s t:=ef h
theorem Fm {U:Nat->Prop} {s:Nat->SV} {t:Nat} (h:U t):er U s t= .d .any:=jy h
theorem Fn {U:Nat->Prop} {s s':Nat->SV} (h:∀ t,¬ U t->s t=s' t):er U s=er U s':=yk h
theorem Fo {z:Nat->SV} (hz:∀ i t,cr i .any (z t)=z t) {U:Nat->Prop} {σ σ':St} {d:Nat} {op:Eg} {p:Prop} (h:wr σ d op=some (p,σ')) (hx:∀ x∈Bt op,∀ t,x= .t t->¬ U t):
  wr ⟨kO z U σ.s,σ.h⟩ d op=some (p,⟨kO z (fun t=>U t/\m_ d op≠some t) σ'.s,σ'.h⟩):=by
 have same:∀ s:Nat->SV,kO z (fun t=>U t/\(none:Option Nat)≠some t) s=kO z U s:=fun s=>by congr 1;funext t;simp
 have one:∀ s:Nat->SV,kO z (fun t=>U t/\(some d:Option Nat)≠some t) s=kO z (fun t=>U t/\t≠d) s:=fun s=>by
  congr 1;funext t;simp only[ne_eq,K0,eq_comm]
 cases op with
 |boxM x=>
  have h1:=jz (z:=z) (s:=σ.s) (hx x (by simp[Bt]))
  simp only[wr,m_,h1,one] at h⊢
  split at h
  ·simp only[K0,K2] at h
   obtain⟨rfl,rfl⟩:=h
   simp only[St.swap,gS hz]
  ·cases h
 |st n x y=>
  have h1:=jz (z:=z) (s:=σ.s) (hx x (by simp[Bt]))
  have h2:=jz (z:=z) (s:=σ.s) (hx y (by simp[Bt]))
  simp only[wr,m_,h1,h2,same] at h⊢
  split at h
  ·split at h
   ·rename_i h3 h4
    simp only[K0,K2] at h
    obtain⟨rfl,rfl⟩:=h
    simp only
   ·cases h
  ·split at h
   ·split at h
    ·rename_i h5
     simp only[K0,K2] at h
     obtain⟨rfl,rfl⟩:=h
     simp only
    ·cases h
   ·cases h
  ·cases h
 |app e sz x y=>
  have h1:=jz (z:=z) (s:=σ.s) (hx x (by simp[Bt]))
  have h2:=jz (z:=z) (s:=σ.s) (hx y (by simp[Bt]))
  simp only[wr,m_,h1,h2,one] at h⊢
  split at h
  ·split at h
   ·simp only[K0,K2] at h
    obtain⟨rfl,rfl⟩:=h
    simp only[cm,St.swap,gS hz]
   ·cases h
  ·simp only[K0,K2] at h
   obtain⟨rfl,rfl⟩:=h
   simp only[cm,St.swap,gS hz]
  ·simp only[K0,K2] at h
   obtain⟨rfl,rfl⟩:=h
   simp only[cm,St.swap,gS hz]
  ·cases h
 |appS e x y=>
  have h1:=jz (z:=z) (s:=σ.s) (hx x (by simp[Bt]))
  have h2:=jz (z:=z) (s:=σ.s) (hx y (by simp[Bt]))
  simp only[wr,m_,h1,h2,one] at h⊢
  split at h
  ·split at h
   ·simp only[K0,K2] at h
    obtain⟨rfl,rfl⟩:=h
    simp only[cm,St.swap,gS hz]
   ·cases h
  ·simp only[K0,K2] at h
   obtain⟨rfl,rfl⟩:=h
   simp only[cm,St.swap,gS hz]
  ·cases h
 |bldM T e=>
  simp only[wr,m_,one,K0,K2] at h⊢
  obtain⟨rfl,rfl⟩:=h
  simp only[St.swap,gS hz,and_self]
 |mkmap kk=>
  simp only[wr,m_,one,K0,K2] at h⊢
  obtain⟨rfl,rfl⟩:=h
  simp only[St.swap,gS hz,and_self]
 |mset kk m k v=>
  have h1:=jz (z:=z) (s:=σ.s) (hx m (by simp[Bt]))
  have h2:=jz (z:=z) (s:=σ.s) (hx k (by simp[Bt]))
  have h3:=jz (z:=z) (s:=σ.s) (hx v (by simp[Bt]))
  simp only[wr,m_,h1,h2,h3,same] at h⊢
  split at h
  ·split at h
   ·simp only[K0,K2] at h
    obtain⟨rfl,rfl⟩:=h
    simp only
   ·cases h
  ·cases h
 |slM e sz xs=>
  have h1:xs.map (ev (kO z U σ.s))=xs.map (ev σ.s):=LS fun x hx'=>jz (hx x (by simpa only[Bt] using hx'))
  simp only[wr,m_,h1,one] at h⊢
  split at h
  ·simp only[K0,K2] at h
   obtain⟨rfl,rfl⟩:=h
   simp only[cm,St.swap,gS hz]
  ·cases h
 |trunc sz x hi=>
  have h1:=jz (z:=z) (s:=σ.s) (hx x (by simp[Bt]))
  have h2:=jz (z:=z) (s:=σ.s) (hx hi (by simp[Bt]))
  simp only[wr,m_,h1,h2,one] at h⊢
  split at h
  ·split at h
   ·simp only[K0,K2] at h
    obtain⟨rfl,rfl⟩:=h
    simp only[cm,St.swap,gS hz]
   ·cases h
  ·cases h
theorem AU {z:Nat->SV} (hz:∀ i t,cr i .any (z t)=z t) {U:Nat->Prop} {σ σ':St} {d:Nat} {res:SV} (h:takes σ [] (some d) res=some σ'):takes ⟨kO z U σ.s,σ.h⟩ [] (some d) res=some ⟨kO z (fun t=>U t/\(some d:Option Nat)≠some t) σ'.s,σ'.h⟩:=by
 have one:∀ s:Nat->SV,kO z (fun t=>U t/\(some d:Option Nat)≠some t) s=kO z (fun t=>U t/\t≠d) s:=fun s=>by
  congr 1;funext t;simp only[ne_eq,K0,eq_comm]
 have plainE:∀ (s:Nat->SV) (v:SV),ak (kO z U s) d v=kO z (fun t=>U t/\t≠d) (ak s d v):=fun s v=>by
  funext t
  by_cases ht:t=d
  ·subst ht;rw[al,ef oS,al]
  ·rw[aP _ _ _ _ ht]
   by_cases hu:U t
   ·rw[jy (U:=fun t=>U t/\t≠d) ⟨hu,ht⟩,jy hu]
   ·rw[ef (U:=fun t=>U t/\t≠d) (fun h=>hu h.1),aP _ _ _ _ ht,ef hu]
 unfold takes at h⊢
 simp only at h⊢
 split at h
 ·rename_i h0
  simp only[K0] at h;subst h
  rw[if_pos h0,one,plainE]
 ·rename_i h0
  rw[if_neg h0]
  split at h
  ·rename_i h1
   rw[if_pos h1]
   split at h
   ·rename_i m v ho
    split at h
    ·rename_i ch mk hoc
     simp only[K0] at h;subst h
     simp only[ho,hoc,one,gS hz]
    ·cases h
   ·cases h
  ·cases h
section
variable {σ:St}
theorem na {σ':St} (hs:∀ i,σ'.s i=σ.s i\/σ'.s i= .d .any) (hh:∀ i,σ'.h i=σ.h i\/σ'.h i= .dead):ce σ σ':=fun c κ φ a w hr=>by
 classical
 refine⟨κ,fun i=>if σ'.h i=σ.h i then φ i else[], ?_⟩
 have hsub:∀ i b,b∈(if σ'.h i=σ.h i then φ i else[])->b∈φ i:=fun i b hb=>by
  split at hb
  ·exact hb
  ·simp at hb
 have hext:gh w (own c φ) w (own c fun i=>if σ'.h i=σ.h i then φ i else[]):=gh.shrink fun b hb=>by
  rcases hb with hb|⟨i,hb⟩
  ·exact .inl hb
  ·exact .inr ⟨i,hsub i b hb⟩
 have hslot:∀ i v,ag w (own c φ) κ (σ.s i) v->ag w (own c fun i=>if σ'.h i=σ.h i then φ i else[]) κ (σ'.s i) v:=fun i v hv=>by
  rcases hs i with h|h
  ·rw[h];exact hv.ext hext
  ·rw[h];simp only[ag];unfold aJ;trivial
 refine⟨hr.chg,hr.size,hr.m0,hr.ntmps,hr.defers,hr.kok,fun i hi=>hslot i _ (hr.slots i hi),fun i v hv=>hslot _ v (hr.ghost i v hv),fun i=> ?_,fun i b hb=>hr.mine i b (hsub i b hb),fun i=> ?_,fun i j b hij hi hj=>hr.sep i j b hij (hsub i b hi) (hsub j b hj)⟩
 ·by_cases h:σ'.h i=σ.h i
  ·simp only[h,LX];exact(hr.chunks i).ext hext (fun _ _=>rfl)
  ·rcases hh i with h'|h'
   ·exact absurd h' h
   ·simp only[h,LI];rw[h'];rfl
 ·split
  ·exact hr.nod i
  ·simp
end
def DC (P:Program) (so:SO) (σ σ':St):Prop:=
 match so with
 | .x d op late=>∃ p,wr σ d op=some (p,σ')/\p/\p7 σ' late
 | .q d f args late=>∃ fid as res,ev σ.s f= .d (.fn fid [])/\SV.toDVs (args.map (ev σ.s))=some as/\bI P fid (as.map .d) res (as.map .d)/\res.closed=true/\takes σ [] (some d) res=some σ'/\p7 σ' late
 |so=>∃ d v,gH so=some d/\YS P σ.h so σ.s v/\σ'=⟨ak σ.s d v,σ.h⟩
theorem rX {P:Program} {so:SO} {σ σ':St} (hx:ue so=false) (h:DC P so σ σ'):∃ d v,gH so=some d/\YS P σ.h so σ.s v/\σ'=⟨ak σ.s d v,σ.h⟩:=by
 cases so<;>first|exact h|simp[ue] at hx
theorem IR {P:Program} {K:St->Prop} {so:SO} {σ:St} (hok:Ig so=true) (h:AO P so σ K):∃ σ',DC P so σ σ'/\K σ':=by
 by_cases hx:ue so=true
 ·cases so<;>simp[ue] at hx
  ·rename_i d op late
   simp only[AO] at h
   split at h
   ·rename_i p σ' hw;exact⟨σ',⟨p,hw,h.1,h.2.1⟩,h.2.2⟩
   ·exact h.elim
  ·rename_i d f args late
   obtain⟨fid,as,res,σ',h1,h2,h3,h4,h5,h6,h7⟩:=h
   exact⟨σ',⟨fid,as,res,h1,h2,h3,h4,h5,h6⟩,h7⟩
 ·simp only[Ml] at hx
  simp only[Ig,hx,Mh,L2] at hok
  obtain⟨d,hd⟩:=hok
  obtain⟨v,hv,hk⟩:=At hd h
  refine⟨_, ?_,hk⟩
  cases so<;>first|exact⟨d,v,hd,hv,rfl⟩|simp[ue] at hx
theorem u_ {P:Program} {K:St->Prop}:∀ (sos:List SO) (σ:St),(∀ so∈sos,Ig so=true)->aA P K sos σ->∃ S:Nat->St,S 0=σ/\(∀ (j:Nat) (so:SO),sos[j]?=some so->DC P so (S j) (S (j+1)))/\K (S sos.length)
 |[],σ,_,h=>⟨fun _=>σ,rfl,by simp,h⟩
 |so::sos,σ,hok,h=>by
  simp only[aA] at h
  obtain⟨σ',h1,h2⟩:=IR (hok so oS) h
  obtain⟨S,h3,h4,h5⟩:=u_ sos σ' (fun s hs=>hok s (by simp[hs])) h2
  refine⟨fun j=>match j with|0=>σ|j+1=>S j,rfl,fun j s hj=> ?_,by simpa using h5⟩
  cases j with
  |zero=>simp at hj;subst hj;simpa[h3] using h1
  |succ j=>exact h4 j s (by simpa using hj)
mutual
theorem AV (id:Nat):∀ v:SV,(cr id .any v).firm=true->cr id .any v=v
 | .d v,_=>rfl
 | .nils,_=>rfl
 | .lit sz n cs,h=>by
  simp only[cr,SV.firm] at h⊢
  rw[te id cs h]
 | .agg cs,h=>by
  simp only[cr,SV.firm] at h⊢
  rw[te id cs h]
 | .tup cs,h=>by simp[cr,SV.firm] at h
 | .ref i off,h=>by
  by_cases hi:i=id
  ·simp[cr,hi,SV.firm] at h
  ·simp[cr,hi]
 | .vec i,h=>by
  by_cases hi:i=id
  ·simp[cr,hi,SV.firm] at h
  ·simp[cr,hi]
 | .vref i a b off,h=>by
  by_cases hi:i=id
  ·simp[cr,hi,SV.firm] at h
  ·simp[cr,hi]
 | .mp i,h=>by
  by_cases hi:i=id
  ·simp[cr,hi,SV.firm] at h
  ·simp[cr,hi]
 | .own m v,_=>rfl
theorem te (id:Nat):∀ l:List SV,SV.firms (b8 id .any l)=true->b8 id .any l=l
 |[],_=>rfl
 |c::cs,h=>by
  simp only[b8,SV.firms,K1] at h⊢
  rw[AV id c h.1,te id cs h.2]
end
mutual
theorem tf (id:Nat):∀ v:SV,v.firm=true->cr id .any v=v
 | .d v,_=>rfl
 | .nils,_=>rfl
 | .lit sz n cs,h=>by
  simp only[cr,SV.firm] at h⊢
  rw[q0 id cs h]
 | .agg cs,h=>by
  simp only[cr,SV.firm] at h⊢
  rw[q0 id cs h]
 | .tup cs,h=>by simp[SV.firm] at h
 | .ref i off,h=>by simp[SV.firm] at h
 | .vec i,h=>by simp[SV.firm] at h
 | .vref i a b off,h=>by simp[SV.firm] at h
 | .mp i,h=>by simp[SV.firm] at h
 | .own m v,h=>by simp[SV.firm] at h
theorem q0 (id:Nat):∀ l:List SV,SV.firms l=true->b8 id .any l=l
 |[],_=>rfl
 |c::cs,h=>by
  simp only[SV.firms,K1] at h
  simp only[b8]
  rw[tf id c h.1,q0 id cs h.2]
end
def lK (s:Nat->SV):Nat->SV:=fun t=>if(s t).firm=true then s t else .d .any
theorem DE (s:Nat->SV) (i t:Nat):cr i .any (lK s t)=lK s t:=by
 unfold lK
 split
 ·rename_i h;exact tf i _ h
 ·rfl
theorem AY (s:Nat->SV) (t:Nat):lK s t= .d .any\/(lK s t=s t/\(s t).firm=true):=by
 unfold lK
 split
 ·rename_i h;exact .inr ⟨rfl,h⟩
 ·exact .inl rfl
theorem AZ (s:Nat->SV) (U:Nat->Prop) (t:Nat):kO (lK s) U s t=s t\/kO (lK s) U s t= .d .any:=by
 by_cases h:U t
 ·rw[jy h]
  rcases AY s t with h|h
  ·exact .inr h
  ·exact .inl h.1
 ·exact .inl (ef h)
def oR:l_->Bool
 | .sslc _ _ _=>true
 |_=>false
def CN:SO->Bool
 | .r _ op=>oR op
 |_=>false
def Kc:SO->Bool
 | .r _ _=>true
 |_=>false
def yl (n:Nat):List (Nat×Nat×l_)->Bool
 |[]=>false
 |(_,_,.cl _ [n'])::l=>n'==n||yl n l
 |_::l=>yl n l
def wc (op:l_) (l:List (Nat×Nat×l_)):Bool:=
 match op with
 | .mv (.t n)=>yl n l
 |_=>false
theorem A0 {s:Nat->SV} {n:Nat} {a:Option Int} (h:zR s (some (.t n))=some a):(s n).firm=true:=by
 simp only[zR,ev] at h
 split at h
 ·rename_i h1;rw[h1];rfl
 ·cases h
theorem CO {h:Nat->Ch} {s:Nat->SV} {op:l_} {p:Prop} {v:SV} (hr:rd h s op=some (p,v)) (hf:oR op=true) {n:Nat} (hn: .t n∈mN op):(s n).firm=true:=by
 cases op<;>simp only[oR,Lm] at hf
 rename_i x lo hi
 simp only[rd] at hr
 split at hr
 ·rename_i l a b h1 h2 h3
  simp only[mN,Li,Le,Option.mem_toList,Option.mem_def] at hn
  rcases hn with rfl|rfl|rfl
  ·have:s n= .d (.str l):=h1
   rw[this];rfl
  ·exact A0 h2
  ·exact A0 h3
 ·cases hr
mutual
theorem ym:∀ v:SV,v.firm=true->∃ d,v.toDV=some d
 | .d v,_=>⟨v,rfl⟩
 | .nils,_=>⟨_,rfl⟩
 | .lit sz n cs,h=>by
  obtain⟨ds,hd⟩:=oU cs (by simpa only[SV.firm] using h)
  exact⟨_,by simp only[SV.toDV,hd];rfl⟩
 | .agg cs,h=>by
  obtain⟨ds,hd⟩:=oU cs (by simpa only[SV.firm] using h)
  exact⟨_,by simp only[SV.toDV,hd];rfl⟩
 | .tup cs,h=>by simp[SV.firm] at h
 | .ref i off,h=>by simp[SV.firm] at h
 | .vec i,h=>by simp[SV.firm] at h
 | .vref i a b off,h=>by simp[SV.firm] at h
 | .mp i,h=>by simp[SV.firm] at h
 | .own m v,h=>by simp[SV.firm] at h
theorem oU:∀ l:List SV,SV.firms l=true->∃ ds,SV.toDVs l=some ds
 |[],_=>⟨[],rfl⟩
 |c::cs,h=>by
  simp only[SV.firms,K1] at h
  obtain⟨d,hd⟩:=ym c h.1
  obtain⟨ds,hds⟩:=oU cs h.2
  exact⟨d::ds,by simp only[SV.toDVs,hd,hds]⟩
end
theorem uf {s:Nat->SV}:∀ {l:List Nat},jr s l=true->∀ n∈l,(s n).firm=true
 |[],_,n,hn=>by cases hn
 |m::l,h,n,hn=>by
  simp only[jr,K1] at h
  rcases Li.1 hn with rfl|hn
  ·exact h.1
  ·exact uf h.2 n hn
theorem Fp {σ σ':St} {d:Nat} {op:Eg} {p:Prop} (h:wr σ d op=some (p,σ')) {n:Nat} (hn:m_ d op≠some n):σ'.s n=σ.s n\/∃ id,σ'.s n=cr id .any (σ.s n):=by
 have gr:∀ (id e sz:Nat) (rows:List (List SV)),d≠n->(cm σ d id e sz rows).s n=cr id .any (σ.s n):=fun id e sz rows hd=>by
  simp only[cm,ak,ca];rw[if_neg (Ne.symm hd)]
 cases op with
 |boxM x=>
  have hd:d≠n:=fun e=>hn (by simp[m_,e])
  simp only[wr] at h
  split at h
  ·simp only[K0,K2] at h
   obtain⟨rfl,rfl⟩:=h
   exact .inr ⟨d,by simp only[ak,ca];rw[if_neg (Ne.symm hd)]⟩
  ·cases h
 |st k x y=>
  simp only[wr] at h
  split at h
  ·split at h
   ·simp only[K0,K2] at h
    obtain⟨rfl,rfl⟩:=h
    exact .inl rfl
   ·cases h
  ·split at h
   ·split at h
    ·simp only[K0,K2] at h
     obtain⟨rfl,rfl⟩:=h
     exact .inl rfl
    ·cases h
   ·cases h
  ·cases h
 |app e sz x y=>
  have hd:d≠n:=fun e=>hn (by simp[m_,e])
  simp only[wr] at h
  split at h
  ·split at h
   ·simp only[K0,K2] at h
    obtain⟨rfl,rfl⟩:=h
    exact .inr ⟨_,gr _ _ _ _ hd⟩
   ·cases h
  ·simp only[K0,K2] at h
   obtain⟨rfl,rfl⟩:=h
   exact .inr ⟨_,gr _ _ _ _ hd⟩
  ·simp only[K0,K2] at h
   obtain⟨rfl,rfl⟩:=h
   exact .inr ⟨_,gr _ _ _ _ hd⟩
  ·cases h
 |appS e x y=>
  have hd:d≠n:=fun e=>hn (by simp[m_,e])
  simp only[wr] at h
  split at h
  ·split at h
   ·simp only[K0,K2] at h
    obtain⟨rfl,rfl⟩:=h
    exact .inr ⟨_,gr _ _ _ _ hd⟩
   ·cases h
  ·simp only[K0,K2] at h
   obtain⟨rfl,rfl⟩:=h
   exact .inr ⟨_,gr _ _ _ _ hd⟩
  ·cases h
 |bldM T e'=>
  have hd:d≠n:=fun e=>hn (by simp[m_,e])
  simp only[wr,K0,K2] at h
  obtain⟨rfl,rfl⟩:=h
  exact .inr ⟨d,by simp only[ak,ca];rw[if_neg (Ne.symm hd)]⟩
 |mkmap kk=>
  have hd:d≠n:=fun e=>hn (by simp[m_,e])
  simp only[wr,K0,K2] at h
  obtain⟨rfl,rfl⟩:=h
  exact .inr ⟨d,by simp only[ak,ca];rw[if_neg (Ne.symm hd)]⟩
 |mset kk m k v=>
  simp only[wr] at h
  split at h
  ·split at h
   ·simp only[K0,K2] at h
    obtain⟨rfl,rfl⟩:=h
    exact .inl rfl
   ·cases h
  ·cases h
 |slM e sz xs=>
  have hd:d≠n:=fun e=>hn (by simp[m_,e])
  simp only[wr] at h
  split at h
  ·simp only[K0,K2] at h
   obtain⟨rfl,rfl⟩:=h
   exact .inr ⟨_,gr _ _ _ _ hd⟩
  ·cases h
 |trunc sz x hi=>
  have hd:d≠n:=fun e=>hn (by simp[m_,e])
  simp only[wr] at h
  split at h
  ·split at h
   ·simp only[K0,K2] at h
    obtain⟨rfl,rfl⟩:=h
    exact .inr ⟨_,gr _ _ _ _ hd⟩
   ·cases h
  ·cases h
theorem tg {P:Program} {so:SO} {σ σ':St} (h:DC P so σ σ') {n:Nat} (hn:bh so≠some n):σ'.s n=σ.s n\/∃ id,σ'.s n=cr id .any (σ.s n):=by
 by_cases hx:ue so=true
 ·cases so<;>simp[ue] at hx
  ·obtain⟨p,hw,_,_⟩:=h
   exact Fp hw hn
  ·rename_i d f args late
   obtain⟨fid,as,res,_,_,_,_,ht,_⟩:=h
   have hd:d≠n:=fun e=>hn (by simp[bh,e])
   simp only[takes] at ht
   split at ht
   ·simp only[K0] at ht;subst ht
    exact .inl (by simp only[ak];rw[if_neg (Ne.symm hd)])
   ·split at ht
    ·split at ht
     ·split at ht
      ·simp only[K0] at ht;subst ht
       exact .inr ⟨d,by simp only[ak,ca];rw[if_neg (Ne.symm hd)]⟩
      ·cases ht
     ·cases ht
    ·cases ht
 ·simp only[Ml] at hx
  obtain⟨d,v,hd,_,rfl⟩:=rX hx h
  have hdE:bh so=some d:=by cases so<;>first|exact hd|simp[ue] at hx
  have:n≠d:=fun e=>hn (by rw[hdE,e])
  exact .inl (by simp only[ak];rw[if_neg this])
theorem wd {P:Program} {sos:List SO} {S:Nat->St} (hS:∀ (j:Nat) (so:SO),sos[j]?=some so->DC P so (S j) (S (j+1))) {a n:Nat}:∀ b,a<=b->b<=sos.length->(∀ i,a<=i->i<b->(sos.map bh)[i]?≠some (some n))->((S b).s n).firm=true->(S a).s n=(S b).s n:=by
 intro b hab hb hn hf
 induction b with
 |zero=>
      obtain rfl:a=0:=by omega
      rfl
 |succ b ih=>
  by_cases hab':a=b+1
  ·rw[hab']
  obtain⟨so,hso⟩:∃ so,sos[b]?=some so:=⟨_,K6 oM⟩
  have hd:bh so≠some n:=fun e=>hn b oM oM (by simp[hso,e])
  have h1:(S (b+1)).s n=(S b).s n:=by
   rcases tg (hS b so hso) hd with h|⟨id,h⟩
   ·exact h
   ·rw[h] at hf⊢;exact AV id _ hf
  rw[h1] at hf⊢
  exact ih oM oM (fun i hi hi'=>hn i hi oM) hf
theorem Hl {P:Program} {sos:List SO} {S:Nat->St} (hS:∀ (j:Nat) (so:SO),sos[j]?=some so->DC P so (S j) (S (j+1))) {a n:Nat} {v:DV} (hv:(S a).s n= .d v):∀ b,a<=b->b<=sos.length->(∀ i,a<=i->i<b->(sos.map bh)[i]?≠some (some n))->(S b).s n= .d v:=by
 intro b hab hb hn
 induction b with
 |zero=>
      obtain rfl:a=0:=by omega
      exact hv
 |succ b ih=>
  by_cases hab':a=b+1
  ·rw[<-hab'];exact hv
  obtain⟨so,hso⟩:∃ so,sos[b]?=some so:=⟨_,K6 oM⟩
  have hd:bh so≠some n:=fun e=>hn b oM oM (by simp[hso,e])
  have h0:=ih oM oM (fun i hi hi'=>hn i hi oM)
  rcases tg (hS b so hso) hd with h|⟨id,h⟩
  ·rw[h,h0]
  ·rw[h,h0];rfl
theorem Fq {P:Program} {sos:List SO} {S:Nat->St} (hS:∀ (j:Nat) (so:SO),sos[j]?=some so->DC P so (S j) (S (j+1))) {a n:Nat} (hv:((S a).s n).firm=true):∀ b,a<=b->b<=sos.length->(∀ i,a<=i->i<b->(sos.map bh)[i]?≠some (some n))->(S b).s n=(S a).s n:=by
 intro b hab hb hn
 induction b with
 |zero=>
      obtain rfl:a=0:=by omega
      rfl
 |succ b ih=>
  by_cases hab':a=b+1
  ·rw[<-hab']
  obtain⟨so,hso⟩:∃ so,sos[b]?=some so:=⟨_,K6 oM⟩
  have hd:bh so≠some n:=fun e=>hn b oM oM (by simp[hso,e])
  have h0:=ih oM oM (fun i hi hi'=>hn i hi oM)
  rcases tg (hS b so hso) hd with h|⟨id,h⟩
  ·rw[h,h0]
  ·rw[h,h0];exact tf id _ hv
def wg (sos:List SO) (a:Nat):List (Nat×Nat×l_)->Bool
 |[]=>false
 |(a',d,.cl t ts)::l=>(a'==a&&t==d&&(match sos[a]? with
  |some (.c d' (.f _) args)=>d'==d&&args.all (fun x=>match x with| .t n=>ts.contains n| .c v=>v.toDV.isSome| .f _=>false)
  |_=>false))||wg sos a l
 |_::l=>wg sos a l
def fX (sos:List SO) (i:Nat):Bool:=match sos[i]? with|some so=>ue so|none=>false
def nb (kp fo fw:Bool) (all:Array Oper) (sos:List SO) (dl:List (Option Nat)) (j:Nat) (o:Oper) (xs:List SX):Bool:=
 (CD xs).all fun t=>(List.range dl.length).all fun b=>dl[b]? !=some (some t)||(decide (b<j)&&o.after.any (fun e=>Region.binds .any e&&e.on==b))||
  ((List.range b).any fun p=>decide (j<=p)&&fX sos p&&(p==j||back all j p [p]))||
  (kp&&fo&&decide (j<b)&&back all j b [b]&&((List.range sos.length).all fun p=> !fX sos p||decide (p<b)||back all j p [p])&&(fw||(List.range b).any fun p=>decide (j<=p)&&fX sos p))
def wh (kp:Bool) (l0:List (Nat×Nat×l_)) (P:Program) (N:Nat) (all:Array Oper) (sos:List SO) (dl:List (Option Nat)) (a:Nat):List (Nat×Nat×l_)->Bool
 |[]=>false
 |(a',d,op)::l=>(a'==a&&dl[a]?==some (some d)&&(match all[a]? with
  |some o=>(match op with
   | .gd t want op'=>iI P N all o (.g t want (some d) (.r d op'))&&nb kp (oR op'||wc op' l0) true all sos dl a o (.t t::mN op')
   |op=>o.guard==none&&d_ P N o (.r d op)&&nb kp (oR op||wc op l0) true all sos dl a o (mN op))
  |none=>false))||wh kp l0 P N all sos dl a l
def th:SO->List (Nat×Nat×l_)
 | .x _ _ l=>l
 | .q _ _ _ l=>l
 |_=>[]
def oV (kp:Bool) (P:Program) (N:Nat) (all:Array Oper) (sos:List SO) (dl:List (Option Nat)) (j:Nat) (o:Oper) (so:SO):Bool:=
 Ig so&&o.after.all (fun e=> !Region.binds .any e||decide (e.on<j))&&nb kp (Kc so) (CN so) all sos dl j o (KX so)&&
 (List.range dl.length).all (fun b=>b==j||dl[b]? !=dl[j]?||dl[j]?==some none)&&
 (List.range j).all (fun p=>match sos[p]? with
  |some sp=>if ue sp then back all p j [j] else(!ue so||back all p j [j]||wh kp (th so) P N all sos dl p (th so)||wg sos p (th so))
  |none=>false)
def q6 (kp:Bool) (P:Program) (N:Nat) (all:Array Oper) (sos:List SO) (dl:List (Option Nat)):Nat->List Oper->List SO->Bool
 |_,[],[]=>true
 |j,o::ops,so::l=>oV kp P N all sos dl j o so&&q6 kp P N all sos dl (j+1) ops l
 |_,_,_=>false
abbrev DF:=q6 false
theorem nc {kp:Bool} {P:Program} {N:Nat} {all:Array Oper} {sos:List SO} {dl:List (Option Nat)}:∀ {ops:List Oper} {l:List SO} {k:Nat},q6 kp P N all sos dl k ops l=true->∀ (j:Nat) (o:Oper) (so:SO),ops[j]?=some o->l[j]?=some so->oV kp P N all sos dl (k+j) o so=true
 |[],[],k,h,j,o,so,ho,hs=>by simp at ho
 |o'::ops,so'::l,k,h,j,o,so,ho,hs=>by
  simp only[q6,K1] at h
  cases j with
  |zero=>simp at ho hs;subst ho hs;exact h.1
  |succ j=>
   have:=nc h.2 j o so (by simpa using ho) (by simpa using hs)
   rw[show k+(j+1)=k+1+j by omega];exact this
 |[],_::_,k,h,_,_,_,_,_=>by simp[q6] at h
 |_::_,[],k,h,_,_,_,_,_=>by simp[q6] at h
theorem nK {kp fo fw:Bool} {all:Array Oper} {sos:List SO} {dl:List (Option Nat)} {j:Nat} {o:Oper} {xs:List SX} (h:nb kp fo fw all sos dl j o xs=true) {t:Nat} (ht: .t t∈xs) {b:Nat} (hb:dl[b]?=some (some t)):
  (b<j/\∃ e∈o.after,Region.binds .any e=true/\e.on=b)\/(∃ p,p<b/\j<=p/\fX sos p=true/\(p=j\/back all j p [p]=true))\/
   (kp=true/\fo=true/\j<b/\back all j b [b]=true/\(fw=true\/∃ p,j<=p/\p<b/\fX sos p=true)/\∀ p,p<sos.length->fX sos p=true->p<b\/back all j p [p]=true):=by
 have h1:=Lj.1 h t (List.mem_filterMap.2 ⟨.t t,ht,rfl⟩)
 have h2:=Lj.1 h1 b (LM.2 (K5.1 hb).1)
 simp only[hb,bne_self_eq_false,Mh,LV,K1,K_] at h2
 rcases h2 with(h2|h2)|h2
 ·obtain⟨e,he,hb'⟩:=Array.any_eq_true'.1 h2.2
  simp only[K1,La] at hb'
  exact .inl ⟨h2.1,e,he,hb'.1,hb'.2⟩
 ·obtain⟨p,hp,hp'⟩:=MN.1 h2
  simp only[K1,LV,K_,La] at hp'
  exact .inr (.inl ⟨p,LM.1 hp,hp'.1.1,hp'.1.2,hp'.2⟩)
 ·obtain⟨⟨⟨⟨⟨k1,k2⟩,k3⟩,k4⟩,k5⟩,k6⟩:=h2
  refine .inr (.inr ⟨k1,k2,k3,k4, ?_,fun p hp hx=> ?_⟩)
  ·rcases k6 with k6|k6
   ·exact .inl k6
   ·obtain⟨p,hp,hp'⟩:=MN.1 k6
    simp only[K1,K_] at hp'
    exact .inr ⟨p,hp'.1,LM.1 hp,hp'.2⟩
  have:=Lj.1 k5 p (LM.2 hp)
  simpa[hx] using this
theorem q7 {σ:St} {n:Nat}:∀ {l:List (Nat×Nat×l_)},yl n l=true->p7 σ l->(σ.s n).firm=true
 |[],h,_=>by simp[yl] at h
 |(a,d,op)::l,h,hr=>by
  simp only[p7] at hr
  unfold yl at h
  split at h
  ·cases h
  ·rename_i heq
   simp only[LK,K2] at heq
   obtain⟨⟨rfl,rfl,rfl⟩,rfl⟩:=heq
   simp only[LV,La] at h
   rcases h with rfl|h
   ·have h0:=hr.1
    simp only[IJ,rd] at h0
    split at h0
    ·rename_i heq2
     split at heq2
     ·rename_i hfa;simpa[jr] using hfa
     ·cases heq2
    ·exact h0.elim
   ·exact q7 h hr.2
  ·rename_i heq
   simp only[LK] at heq
   obtain⟨rfl,rfl⟩:=heq
   exact q7 h hr.2
theorem B2 {σ:St} {op:l_} {l:List (Nat×Nat×l_)} (h:wc op l=true) (hr:p7 σ l) {n:Nat} (hn: .t n∈mN op):(σ.s n).firm=true:=by
 unfold wc at h
 split at h
 ·simp only[mN,LA,SX.t.injEq] at hn
  subst hn
  exact q7 h hr
 ·cases h
theorem Hm {a b:Bool} (h:¬ a=b):a= !b:=by cases a<;>cases b<;>first|rfl|exact absurd rfl h
theorem ug {kp:Bool} {l0:List (Nat×Nat×l_)} {P:Program} {N:Nat} {all:Array Oper} {sos:List SO} {dl:List (Option Nat)} {a:Nat} {σ:St}:∀ {l:List (Nat×Nat×l_)},wh kp l0 P N all sos dl a l=true->p7 σ l->
  ∃ d op o,dl[a]?=some (some d)/\all[a]?=some o/\
   ((o.guard=none/\d_ P N o (.r d op)=true/\nb kp (oR op||wc op l0) true all sos dl a o (mN op)=true/\∃ p,rd σ.h σ.s op=some (p,σ.s d)/\p)\/
    (∃ t want,iI P N all o (.g t want (some d) (.r d op))=true/\nb kp (oR op||wc op l0) true all sos dl a o (.t t::mN op)=true/\∃ p,IJ σ.h σ.s (.gd t want op)=some (p,σ.s d)/\p))
 |[],h,_=>by simp[wh] at h
 |(a',d,op)::l,h,hr=>by
  simp only[wh,LV,K1,La] at h
  simp only[p7] at hr
  rcases h with⟨⟨rfl,h1⟩,h2⟩|h
  ·split at h2
   ·rename_i o ho
    obtain⟨hr1,_⟩:=hr
    split at hr1
    ·rename_i p v hrd
     obtain⟨hp,rfl⟩:=hr1
     split at h2
     ·rename_i t want op'
      simp only[K1] at h2
      exact⟨d,op',o,h1,ho,.inr ⟨t,want,h2.1,h2.2,p,hrd,hp⟩⟩
     ·rename_i hng
      simp only[K1,La] at h2
      have hrd':rd σ.h σ.s op=some (p,σ.s d):=by
       cases op<;>first|exact hrd|exact absurd rfl (hng _ _ _)
      exact⟨d,op,o,h1,ho,.inl ⟨h2.1.1,h2.1.2,h2.2,p,hrd',hp⟩⟩
    ·exact hr1.elim
   ·cases h2
  ·exact ug h hr.2
theorem q8 {sos:List SO} {a:Nat} {σ:St}:∀ {l:List (Nat×Nat×l_)},wg sos a l=true->p7 σ l->∃ d fid args ts,sos[a]?=some (.c d (.f fid) args)/\(∀ x∈args,(∃ n,x= .t n/\n∈ts)\/∃ v,x= .c v/\v.toDV.isSome=true)/\jr σ.s ts=true
 |[],h,_=>by simp[wg] at h
 |(a',d,op)::l,h,hr=>by
  simp only[p7] at hr
  cases op with
  |cl t ts=>
   simp only[wg,LV,K1,La] at h
   rcases h with⟨_,h⟩|h
   ·split at h
    ·rename_i d' fid args hs
     simp only[K1,La,Lj] at h
     refine⟨d',fid,args,ts,hs,fun x hx=> ?_, ?_⟩
     ·have:=h.2 x hx
      cases x with
      |t n=>exact .inl ⟨n,rfl,by simpa using this⟩
      |c v=>exact .inr ⟨v,rfl,this⟩
      |f i=>cases this
     ·have h0:=hr.1
      simp only[IJ,rd] at h0
      by_cases hf:jr σ.s ts=true
      ·exact hf
      ·simp[hf] at h0
    ·cases h
   ·exact q8 h hr.2
  |_=>exact q8 (by simpa only[wg] using h) hr.2
theorem Ih (f:Nat->Bool) (n:Nat):∀ k,k<=n->∃ M,k<=M/\M<=n/\(∀ i,k<=i->i<M->f i=false)/\(M=n\/(M<n/\f M=true)):=by
 intro k hk
 obtain⟨m,hm⟩:∃ m,m=n - k:=⟨_,rfl⟩
 induction m generalizing k with
 |zero=>exact⟨k,K9 _,hk,fun i h1 h2=>by omega,.inl oM⟩
 |succ m ih=>
  by_cases hf:f k=true
  ·exact⟨k,K9 _,hk,fun i h1 h2=>by omega,.inr ⟨by omega,hf⟩⟩
  ·obtain⟨M,h1,h2,h3,h4⟩:=ih (k+1) oM oM
   refine⟨M,by omega,h2,fun i h5 h6=> ?_,h4⟩
   by_cases hik:i=k
   ·subst hik;simpa using hf
   ·exact h3 i oM h6
theorem JS (f:Nat->Bool) (k:Nat):∀ M,k<=M->(∀ i,k<=i->i<M->f i=false)\/∃ p,k<=p/\p<M/\f p=true/\∀ i,p<i->i<M->f i=false:=by
 intro M hM
 induction M with
 |zero=>exact .inl fun i h1 h2=>by omega
 |succ M ih=>
  by_cases hk:k=M+1
  ·exact .inl fun i h1 h2=>by omega
  ·by_cases hf:f M=true
   ·exact .inr ⟨M,by omega,by omega,hf,fun i h1 h2=>by omega⟩
   ·rcases ih oM with h|⟨p,h1,h2,h3,h4⟩
    ·refine .inl fun i h1 h2=> ?_
     by_cases hi:i=M
     ·subst hi;simpa using hf
     ·exact h i h1 oM
    ·refine .inr ⟨p,h1,by omega,h3,fun i h5 h6=> ?_⟩
     by_cases hi:i=M
     ·subst hi;simpa using hf
     ·exact h4 i h5 oM
section
variable {P:Program} {c:Cx}
theorem rY {sos:List SO} {S:Nat->St} (hS:∀ (j:Nat) (so:SO),sos[j]?=some so->DC P so (S j) (S (j+1))) {a:Nat}:∀ b,a<=b->b<=sos.length->(∀ i,a<=i->i<b->fX sos i=false)->
  (S b).h=(S a).h/\∀ t,(∀ i,a<=i->i<b->(sos.map bh)[i]?≠some (some t))->(S b).s t=(S a).s t:=by
 intro b hab hb hf
 induction b with
 |zero=>
      obtain rfl:a=0:=by omega
      exact⟨rfl,fun _ _=>rfl⟩
 |succ b ih=>
  by_cases hab':a=b+1
  ·subst hab';exact⟨rfl,fun _ _=>rfl⟩
  obtain⟨h1,h2⟩:=ih oM oM (fun i hi hi'=>hf i hi oM)
  obtain⟨so,hso⟩:∃ so,sos[b]?=some so:=⟨_,K6 oM⟩
  have hx:ue so=false:=by have:=hf b oM oM;simpa[fX,hso] using this
  obtain⟨d,v,hd,_,he⟩:=rX hx (hS b so hso)
  have hdE:bh so=some d:=by cases so<;>first|exact hd|simp[ue] at hx
  rw[he]
  refine⟨h1,fun t ht=> ?_⟩
  have hne:t≠d:=fun e=>by
   subst e
   exact ht b oM oM (by simp[hso,hdE])
  simp only[aP _ _ _ _ hne]
  exact h2 t fun i hi hi'=>ht i hi oM
def bD (dl:List (Option Nat)) (M:Nat) (L:Nat->Bool) (t:Nat):Prop:=∃ i:Nat,i<M/\dl[i]?=some (some t)/\L i=false
theorem q9 {ops:Array Oper} {sos:List SO} {S:Nat->St} {K:St->Prop} {Q:Exit->Act->World->Prop}
  (hQ:∀ σ' κ' φ' a' w',b_ c σ' κ' φ' a' w'->K σ'->Q .normal a' w') (hm:aX P c.N ops ops.toList sos=true) {kp:Bool} {z:Nat->SV} (hz:∀ i t,cr i .any (z t)=z t) (hzk:kp=true->∀ t,((S 0).s t).firm=true->z t=(S 0).s t) (hzw:∀ t,z t= .d .any\/(z t=(S 0).s t/\((S 0).s t).firm=true)) (hord:q6 kp P c.N ops sos (sos.map bh) 0 ops.toList sos=true)
  (hS:∀ (j:Nat) (so:SO),sos[j]?=some so->DC P so (S j) (S (j+1))) (hK:K (S sos.length)):
  ∀ (fuel:Nat) (listed:Array Bool) (M:Nat) (κ:Nat->Value) (φ:Nat->List Nat) (a:Act) (w:World),listed.size=ops.size->(tZ ops.size listed).length=fuel->
   (∀ (i:Nat) o,listed.getD i false=true->ops[i]?=some o->∀ e∈o.after,Region.binds .any e=true->listed.getD e.on false=true)->
   M<=sos.length->(∀ i,i<M->fX sos i=true->listed.getD i false=true)->(M=sos.length\/(M<sos.length/\fX sos M=true))->(∀ i,M<=i->listed.getD i false=false)->
   b_ c ⟨kO z (bD (sos.map bh) M (fun i=>listed.getD i false)) (S M).s,(S M).h⟩ κ φ a w->
   wpAny P .any ops Q fuel listed a w:=by
 obtain⟨hml,hmo⟩:=eB hm
 have hlen:sos.length=ops.size:=by simp at hml;omega
 have hget:∀ j,j<ops.size->∃ so,sos[j]?=some so:=fun j hj=>⟨_,K6 oM⟩
 have hdl:∀ (j:Nat) so,sos[j]?=some so->(sos.map bh)[j]?=some (bh so):=fun j so h=>by simp[h]
 have hord1:∀ (j:Nat) o so,ops[j]?=some o->sos[j]?=some so->oV kp P c.N ops sos (sos.map bh) j o so=true:=fun j o so ho hso=>by
  have:=nc hord j o so (by simpa using ho) hso
  simpa using this
 have hedges:∀ (j:Nat) o so,ops[j]?=some o->sos[j]?=some so->∀ e∈o.after,Region.binds .any e=true->e.on<j:=fun j o so ho hso e he hb=>by
  have:=hord1 j o so ho hso
  simp only[oV,K1] at this
  have:=Mg.1 this.1.1.1.2 e he
  simpa[hb] using this
 have huniq:∀ (j b:Nat) t,(sos.map bh)[j]?=some (some t)->(sos.map bh)[b]?=some (some t)->b=j:=fun j b t hj hb=>by
  have hjl:j<sos.length:=by have:=(K5.1 hj).1;simpa using this
  have hbl:b<(sos.map bh).length:=(K5.1 hb).1
  obtain⟨so,hso⟩:=hget j oM
  have:=hord1 j ops[j] so (LR oM) hso
  simp only[oV,K1] at this
  have:=Lj.1 this.1.2 b (LM.2 hbl)
  simpa[hj,hb] using this
 have hafter:∀ (p j:Nat),p<j->j<sos.length->fX sos p=true->back ops p j [j]=true:=fun p j hpj hj hp=>by
  obtain⟨so,hso⟩:=hget j oM
  obtain⟨sp,hsp⟩:=hget p oM
  have:=hord1 j ops[j] so (LR oM) hso
  simp only[oV,K1] at this
  have:=Lj.1 this.2 p (LM.2 hpj)
  have hx:ue sp=true:=by simpa[fX,hsp] using hp
  simpa[hsp,hx] using this
 have fin:∀ (listed:Array Bool) (M:Nat) (κ:Nat->Value) (φ:Nat->List Nat) (a:Act) (w:World),listed.size=ops.size->(M=sos.length\/(M<sos.length/\fX sos M=true))->(∀ i,M<=i->listed.getD i false=false)->
   b_ c ⟨kO z (bD (sos.map bh) M (fun i=>listed.getD i false)) (S M).s,(S M).h⟩ κ φ a w->Region.ready .any ops listed=[]->Q .normal a w:=by
  intro listed M κ φ a w hls hM hun hr hready
  have all:∀ j,j<ops.size->listed.getD j false=true:=by
   intro j
   induction j using Nat.strongRecOn with
   |_ j ih=>
    intro hj
    by_cases hl:listed.getD j true=false
    ·exfalso
     have ho:ops[j]?=some ops[j]:=LR hj
     obtain⟨so,hso⟩:=hget j hj
     have hx:=hedges j ops[j] so ho hso
     have:j∈Region.ready .any ops listed:=mem_ready.2 ⟨hl,ops[j],ho,fun e he hb=>ih e.on (hx e he hb) (by have:=hx e he hb;omega)⟩
     rw[hready] at this;simp at this
    ·have hj':j<listed.size:=by omega
     simp[hj'] at hl⊢
     exact hl
  have hMn:M=sos.length:=by
   rcases hM with h|⟨h,_⟩
   ·exact h
   ·have h1:=all M oM
    rw[hun M (K9 _)] at h1;cases h1
  refine hQ _ _ _ _ _ hr ?_
  have:kO z (bD (sos.map bh) M (fun i=>listed.getD i false)) (S M).s=(S M).s:=by
   funext t
   refine ef fun⟨i,_,h1,h2⟩=> ?_
   have hil:i<sos.length:=by have:=(K5.1 h1).1;simpa using this
   simp only[all i oM] at h2;cases h2
  rw[this,hMn];exact hK
 intro fuel
 induction fuel with
 |zero=>
  intro listed M κ φ a w hls hu _ _ _ hM hun hr
  have hready:Region.ready .any ops listed=[]:=by
   cases hrd:Region.ready .any ops listed with
   |nil=>rfl
   |cons i l=>
    exfalso
    have hi:i∈Region.ready .any ops listed:=by rw[hrd];simp
    obtain⟨h0,o,ho,_⟩:=mem_ready.1 hi
    have:i∈tZ ops.size listed:=by simp only[tZ,MS,LM,h0,LL,and_true];exact(Lo.1 ho).1
    rw[Ld.1 hu] at this;simp at this
  exact⟨hready,fin listed M κ φ a w hls hM hun hr hready⟩
 |succ fuel ih=>
  intro listed M κ φ a w hls hu hcl hMn hbef hM hun hr
  refine⟨fin listed M κ φ a w hls hM hun hr,fun j hj=> ?_⟩
  obtain⟨h0,o,ho,hedge⟩:=mem_ready.1 hj
  have hjlt:j<ops.size:=(Lo.1 ho).1
  obtain⟨so,hso⟩:=hget j hjlt
  have hnl:listed.getD j false=false:=by
   simp only[LB] at h0⊢
   have:j<listed.size:=by omega
   simpa[this] using h0
  have hcl':=qQ hcl ho hedge oM
  have hli:(tZ ops.size (listed.setIfInBounds j true)).length=fuel:=by
   have:=zb hjlt hls h0
   omega
  have hL':∀ i,(listed.setIfInBounds j true).getD i false=(listed.getD i false||i==j):=fun i=>by
   by_cases hij:j=i
   ·subst hij;simp[hls,hjlt]
   ·rw[getD_set_ne false hij];simp[Ne.symm hij]
  have hjM:j<=M:=by
   rcases Lx M j with hlt|hle
   ·exfalso
    rcases hM with h|⟨h,hx⟩
    ·omega
    ·have h1:=hafter M j hlt oM hx
     have h2:=gN hcl' j [j] (by simp[hL']) h1
     rw[hL',hun M (K9 _)] at h2
     simp at h2
     omega
   ·exact hle
  have hop:=hord1 j o so ho hso
  have operand2:∀ (xs:List SX) (fo fw:Bool),nb kp fo fw ops sos (sos.map bh) j o xs=true->∀ t,.t t∈xs->(¬ bD (sos.map bh) M (fun i=>listed.getD i false) t/\∀ b:Nat,(sos.map bh)[b]?=some (some t)->b<j\/M<=b)\/
    (kp=true/\fo=true/\∃ b:Nat,(sos.map bh)[b]?=some (some t)/\j<b/\b<M/\listed.getD b false=false/\(fw=true\/∃ p,j<=p/\p<b/\fX sos p=true)/\∀ p,p<M->fX sos p=true->p<b):=fun xs fo fw hxs t ht=>by
   have hlate:∀ b p:Nat,p<b->j<=p->fX sos p=true->(p=j\/back ops j p [p]=true)->M<=b:=fun b p h1 h2 h3 h4=>by
    rcases Lx b M with hlt|hge
    ·exfalso
     have hlp:=hbef p oM h3
     rcases h4 with rfl|h4
     ·rw[hnl] at hlp;cases hlp
     ·have:=gN hcl p [p] (by simpa using hlp) h4
      rw[hnl] at this;cases this
    ·exact hge
   by_cases hb3:∃ b:Nat,(sos.map bh)[b]?=some (some t)/\kp=true/\fo=true/\j<b/\back ops j b [b]=true/\b<M/\(fw=true\/∃ p,j<=p/\p<b/\fX sos p=true)/\∀ p,p<sos.length->fX sos p=true->p<b\/back ops j p [p]=true
   ·obtain⟨b,hb,k1,k2,k3,k4,k5,k7,k6⟩:=hb3
    refine .inr ⟨k1,k2,b,hb,k3,k5, ?_,k7,fun p hp hx=> ?_⟩
    ·by_cases hlb:listed.getD b false=true
     ·have:=gN hcl b [b] (by simpa using hlb) k4
      rw[hnl] at this;cases this
     ·simpa using hlb
    ·rcases k6 p oM hx with h|h
     ·exact h
     ·have:=gN hcl p [p] (by simpa using hbef p hp hx) h
      rw[hnl] at this;cases this
   ·refine .inl ⟨fun⟨b,hb0,hb1,hb2⟩=> ?_,fun b hb=> ?_⟩
    ·rcases nK hxs ht hb1 with⟨_,e,he,hbd,rfl⟩|⟨p,h1,h2,h3,h4⟩|⟨k1,k2,k3,k4,k7,k5⟩
     ·simp only[hedge e he hbd] at hb2;cases hb2
     ·have:=hlate b p h1 h2 h3 h4;omega
     ·exact hb3 ⟨b,hb1,k1,k2,k3,k4,hb0,k7,k5⟩
    ·rcases nK hxs ht hb with⟨h,_⟩|⟨p,h1,h2,h3,h4⟩|⟨k1,k2,k3,k4,k7,k5⟩
     ·exact .inl h
     ·exact .inr (hlate b p h1 h2 h3 h4)
     ·refine .inr ?_
      rcases Lx b M with hlt|hge
      ·exact absurd ⟨b,hb,k1,k2,k3,k4,hlt,k7,k5⟩ hb3
      ·exact hge
  have operand:∀ (xs:List SX),(∃ fw,nb kp false fw ops sos (sos.map bh) j o xs=true)->∀ t,.t t∈xs->¬ bD (sos.map bh) M (fun i=>listed.getD i false) t/\∀ b:Nat,(sos.map bh)[b]?=some (some t)->b<j\/M<=b:=fun xs ⟨fw,hxs⟩ t ht=>
   (operand2 xs false fw hxs t ht).resolve_right fun h=>by cases h.2.1
  have first:∀ (n b k:Nat),kp=true->(sos.map bh)[b]?=some (some n)->k<=b->k<=sos.length->b<M->listed.getD b false=false->((S k).s n).firm=true->kO z (bD (sos.map bh) M (fun i=>listed.getD i false)) (S M).s n=(S k).s n:=fun n b k hkp hb hkb hks hbM hlb hf=>by
   rw[jy (U:=bD (sos.map bh) M (fun i=>listed.getD i false)) ⟨b,hbM,hb,hlb⟩]
   have h0:=wd hS (a:=0) (n:=n) k (LT _) hks (fun i _ hi' h=>by have:=huniq b i n hb h;omega) hf
   rw[<-h0]
   exact hzk hkp n (by rw[h0];exact hf)
  unfold wpOp
  simp only[ho]
  by_cases hX:ue so=true
  ·
   have hjM':j=M:=by
    rcases Lx j M with hlt|hle
    ·have:=hbef j hlt (by simpa[fX,hso] using hX)
     rw[hnl] at this;cases this
    ·omega
   subst hjM'
   obtain⟨e,so',hdW,hmo',hao⟩:∃ (e:Option Nat) (so':SO),e=bh so/\iI P c.N ops o so'=true/\AO P so' ⟨kO z (bD (sos.map bh) j (fun i=>listed.getD i false)) (S j).s,(S j).h⟩ (· =⟨kO z (fun t=>bD (sos.map bh) j (fun i=>listed.getD i false) t/\e≠some t) (S (j+1)).s,(S (j+1)).h⟩):=by
    cases so<;>simp[ue] at hX
    ·rename_i d op late
     obtain⟨p,hw,hp,hrer⟩:=hS j _ hso
     have hxs:∃ fw,nb kp false fw ops sos (sos.map bh) j o (Bt op)=true:=by
      simp only[oV,K1] at hop;exact⟨_,hop.1.1.2⟩
     have hfr:=Fo hz (U:=bD (sos.map bh) j (fun i=>listed.getD i false)) hw (fun x hx t ht=>(operand _ hxs t (ht▸hx)).1)
     refine⟨m_ d op,.x d op [],rfl, ?_, ?_⟩
     ·have:=hmo j o _ (by simpa using ho) hso
      simpa only[iI,d_] using this
     ·simp only[AO,hfr,p7,and_true,true_and];exact hp
    ·rename_i d f args late
     obtain⟨fid,as,res,q1,q2,q3,q4,q5,hrer⟩:=hS j _ hso
     have hxs:∃ fw,nb kp false fw ops sos (sos.map bh) j o (f::args)=true:=by
      simp only[oV,K1] at hop;exact⟨_,hop.1.1.2⟩
     refine⟨some d,.q d f args [],rfl, ?_, ?_⟩
     ·have:=hmo j o _ (by simpa using ho) hso
      simpa only[iI,d_] using this
     ·have hev:∀ x∈f::args,ev (kO z (bD (sos.map bh) j (fun i=>listed.getD i false)) (S j).s) x=ev (S j).s x:=fun x hx=>jz fun t ht=>(operand _ hxs t (ht▸hx)).1
      have hargs:args.map (ev (kO z (bD (sos.map bh) j (fun i=>listed.getD i false)) (S j).s))=args.map (ev (S j).s):=LS fun x hx=>hev x (by simp[hx])
      exact⟨fid,as,res,_,by rw[<-q1];exact hev f oS,by rw[<-q2];simp only[hargs],q3,q4,AU hz q5,trivial,rfl⟩
   refine rS hr hmo' hao fun σ' κ' φ' a' w' hr' hk=> ?_
   subst hk
   obtain⟨M',h1,h2,h3,h4⟩:=Ih (fX sos) sos.length (j+1) oM
   obtain⟨q1,q2⟩:=rY hS M' h1 h2 h3
   have hweak:ce ⟨kO z (fun t=>bD (sos.map bh) j (fun i=>listed.getD i false) t/\e≠some t) (S (j+1)).s,(S (j+1)).h⟩ ⟨kO z (bD (sos.map bh) M' (fun i=>(listed.setIfInBounds j true).getD i false)) (S M').s,(S M').h⟩:=by
    refine na (fun t=> ?_) (fun i=> .inl (by simp only[q1]))
    by_cases hU:bD (sos.map bh) M' (fun i=>(listed.setIfInBounds j true).getD i false) t
    ·show kO z (bD (sos.map bh) M' (fun i=>(listed.setIfInBounds j true).getD i false)) (S M').s t=kO z (fun t=>bD (sos.map bh) j (fun i=>listed.getD i false) t/\e≠some t) (S (j+1)).s t\/kO z (bD (sos.map bh) M' (fun i=>(listed.setIfInBounds j true).getD i false)) (S M').s t=_
     by_cases hV:bD (sos.map bh) j (fun i=>listed.getD i false) t/\e≠some t
     ·rw[jy hU,jy (U:=fun t=>bD (sos.map bh) j (fun i=>listed.getD i false) t/\e≠some t) hV];exact .inl rfl
     ·rw[jy hU,ef (U:=fun t=>bD (sos.map bh) j (fun i=>listed.getD i false) t/\e≠some t) hV]
      rcases hzw t with h|⟨h,hf⟩
      ·exact .inr h
      ·refine .inl ?_
       obtain⟨i,hi0,hi1,hi2⟩:=hU
       have hij:j<i:=by
        rcases Lx j i with h'|h'
        ·exact h'
        ·exfalso
         simp only[hL',L7,MP,ne_eq] at hi2
         refine hV ⟨⟨i,by omega,hi1,hi2.1⟩,fun he=> ?_⟩
         rw[hdW] at he
         have:=huniq j i t (by rw[hdl j so hso,he]) hi1
         omega
       rw[h]
       exact(Fq hS (a:=0) hf (j+1) (LT _) oM fun q _ hq h'=>by have:=huniq i q t hi1 h';omega).symm
    ·refine .inl ?_
     simp only[ef hU]
     rw[ef,q2 t]
     ·intro i hi hi' he
      refine hU ⟨i,hi',he, ?_⟩
      simp only[hL',hun i oM,Mh,MP,ne_eq]
      omega
     ·rintro⟨⟨i,hi0,hi1,hi2⟩,_⟩
      refine hU ⟨i,by omega,hi1, ?_⟩
      simp only[hL',hi2,Mh,MP,ne_eq]
      omega
   obtain⟨κ2,φ2,hr2⟩:=hweak _ _ _ _ _ hr'
   refine ih (listed.setIfInBounds j true) M' κ2 φ2 a' w' (by simp[hls]) hli hcl' h2 ?_ h4 ?_ hr2
   ·intro i hi hx
    rw[hL']
    by_cases hij:i=j
    ·simp[hij]
    ·rcases Lx i j with hlt|hge
     ·simp[hbef i hlt hx]
     ·rw[h3 i oM hi] at hx;cases hx
   ·intro i hi
    rw[hL',hun i oM];simp;omega
  ·
   simp only[Ml] at hX
   obtain⟨d,v,hd,hy,he⟩:=rX hX (hS j so hso)
   have hdE:bh so=some d:=by cases so<;>first|exact hd|simp[ue] at hX
   have hdj:(sos.map bh)[j]?=some (some d):=by rw[hdl j so hso,hdE]
   have hjM':j<M:=by
    rcases hM with h|⟨h,hx⟩
    ·omega
    ·rcases Lx j M with h'|h'
     ·exact h'
     ·obtain rfl:j=M:=by omega
      simp only[fX,hso,hX] at hx;cases hx
   have hxs:nb kp (Kc so) (CN so) ops sos (sos.map bh) j o (Dl so)=true:=by
    simp only[oV,K1] at hop
    have:=hop.1.1.2
    cases so<;>first|exact this|simp[ue] at hX
   have hstate:ak (kO z (bD (sos.map bh) M (fun i=>listed.getD i false)) (S M).s) d ((S M).s d)=kO z (bD (sos.map bh) M (fun i=>(listed.setIfInBounds j true).getD i false)) (S M).s:=by
    funext t
    by_cases ht:t=d
    ·subst ht
     rw[al,ef]
     rintro⟨i,_,hi1,hi2⟩
     have:=huniq j i t hdj hi1
     subst this
     simp[hL'] at hi2
    ·rw[aP _ _ _ _ ht]
     by_cases hU:bD (sos.map bh) M (fun i=>listed.getD i false) t
     ·rw[jy hU,jy]
      obtain⟨i,hi0,hi1,hi2⟩:=hU
      refine⟨i,hi0,hi1, ?_⟩
      simp only[hL',hi2,Mh,MP,ne_eq]
      intro hij
      subst hij
      rw[hdj] at hi1;simp at hi1;exact ht hi1.symm
     ·rw[ef hU,ef]
      rintro⟨i,hi0,hi1,hi2⟩
      exact hU ⟨i,hi0,hi1,by simp only[hL',L7] at hi2;exact hi2.1⟩
   have key:∃ so',iI P c.N ops o so'=true/\gH so'=some d/\YS P (S M).h so' (kO z (bD (sos.map bh) M (fun i=>listed.getD i false)) (S M).s) ((S M).s d):=by
    rcases JS (fX sos) j M oM with hno|⟨p,hp1,hp2,hp3,hp4⟩
    ·obtain⟨q1,q2⟩:=rY hS M oM hMn hno
     obtain⟨q3,q4⟩:=rY hS (a:=j+1) M oM hMn (fun i hi hi'=>hno i oM hi')
     have hv:(S M).s d=v:=by
      rw[q4 d fun i hi hi' h=>by have:=huniq j i d hdj h;omega,he]
      simp[al]
     refine⟨so,hmo j o so (by simpa using ho) hso,hd, ?_⟩
     rw[hv,q1]
     refine rM (s:=(S j).s) (fun x hx=> ?_) hy
     cases x with
     |t n=>
      show(S j).s n=kO z _ (S M).s n
      rcases operand2 _ _ _ hxs n hx with⟨o1,o2⟩|⟨k1,k2,b,k3,k4,k5,k6,k7,_⟩
      ·rw[ef o1,q2 n fun i hi hi' h=>by have:=o2 i h;omega]
      ·refine(first n b j k1 k3 oM oM k5 k6 ?_).symm
       rcases k7 with k7|⟨p,m1,m2,m3⟩
       ·cases so<;>simp only[CN,Lm] at k7
        obtain⟨pp,hrd,_⟩:=hy
        exact CO hrd k7 hx
       ·have:=hno p m1 oM
        rw[m3] at this;cases this
     |c v=>rfl
     |f i=>rfl
    ·have hjp:j<p:=by
      rcases Lx j p with h|h
      ·exact h
      ·obtain rfl:p=j:=by omega
       simp only[fX,hso,hX] at hp3;cases hp3
     obtain⟨sp,hsp⟩:=hget p oM
     have hpx:ue sp=true:=by simpa[fX,hsp] using hp3
     have hpo:=hord1 p ops[p] sp (LR oM) hsp
     simp only[oV,K1] at hpo
     have hl:=Lj.1 hpo.2 j (LM.2 hjp)
     simp only[hso,hX,hpx,LG,Mh,Lm,LI,LV] at hl
     have hlp:=hbef p hp2 hp3
     have hrer0:p7 (S (p+1)) (th sp):=by
      cases sp<;>simp[ue] at hpx
      ·obtain⟨_,_,_,hrer⟩:=hS p _ hsp;exact hrer
      ·obtain⟨_,_,_,_,_,_,_,_,hrer⟩:=hS p _ hsp;exact hrer
     rcases hl with(hl|hl)|hl
     rotate_left 2
     ·obtain⟨d2,fid,args,ts,e1,e2,e3⟩:=q8 hl hrer0
      rw[hso] at e1;simp only[K0] at e1;subst e1
      simp only[gH,K0] at hd;subst hd
      obtain⟨q1,q2⟩:=rY hS (a:=p+1) M oM hMn (fun i hi hi'=>hp4 i oM hi')
      have hslot:∀ n,n∈ts->(.t n:SX)∈args->(S j).s n=(S M).s n/\kO z (bD (sos.map bh) M (fun i=>listed.getD i false)) (S M).s n=(S M).s n/\((S M).s n).firm=true:=fun n hn hna=>by
       obtain⟨o1,o2⟩:=operand _ ⟨_,by simpa only[Kc] using hxs⟩ n (by simp[Dl,hna])
       have h1:(S M).s n=(S (p+1)).s n:=q2 n fun i hi hi' h=>by have:=o2 i h;omega
       have h2:=uf e3 n hn
       have h3:=wd hS (a:=j) (n:=n) (p+1) oM oM (fun i hi hi' h=>by have:=o2 i h;omega) h2
       exact⟨by rw[h1,h3],ef o1,by rw[h1];exact h2⟩
      have hev:∀ x∈args,ev (S j).s x=ev (kO z (bD (sos.map bh) M (fun i=>listed.getD i false)) (S M).s) x/\∃ v,(ev (S j).s x).toDV=some v:=fun x hx=>by
       rcases e2 x hx with⟨n,rfl,hn⟩|⟨v,rfl,hv⟩
       ·obtain⟨k1,k2,k3⟩:=hslot n hn hx
        refine⟨by simp only[ev];rw[k2,k1], ?_⟩
        simp only[ev];rw[k1];exact ym _ k3
       ·exact⟨rfl,L2.1 hv⟩
      have hmap:args.map (ev (kO z (bD (sos.map bh) M (fun i=>listed.getD i false)) (S M).s))=args.map (ev (S j).s):=LS fun x hx=>((hev x hx).1).symm
      obtain⟨ds,hds⟩:∃ ds,SV.toDVs (args.map (ev (S j).s))=some ds:=by
       have:∀ l:List SX,(∀ x∈l,∃ v,(ev (S j).s x).toDV=some v)->∃ ds,SV.toDVs (l.map (ev (S j).s))=some ds:=fun l=>by
        induction l with
        |nil=>intro _;exact⟨[],rfl⟩
        |cons x l ih=>
         intro h
         obtain⟨v,hv⟩:=h x oS
         obtain⟨ds,hds⟩:=ih fun y hy=>h y (by simp[hy])
         exact⟨v::ds,by simp only[Lh,SV.toDVs,hv,hds]⟩
       exact this args fun x hx=>(hev x hx).2
      simp only[YS,ev,gQ _ _ _ hds] at hy
      obtain⟨res,y1,_,rfl⟩:=hy
      have hvM:(S M).s d2= .d res:=Hl hS (a:=j+1) (by rw[he];simp[ak]) M oM hMn fun i hi hi' h=>by have:=huniq j i d2 hdj h;omega
      refine⟨.c d2 (.f fid) args,hmo j o _ (by simpa using ho) hso,rfl, ?_⟩
      simp only[YS,ev,hmap,gQ _ _ _ hds]
      exact⟨res,y1,.inl (by rw[hds];rfl),hvM⟩
     ·exfalso
      have:=gN hcl p [p] (by simpa using hlp) hl
      rw[hnl] at this;cases this
     ·have hrer:p7 (S (p+1)) (th sp):=by
       cases sp<;>simp[ue] at hpx
       ·obtain⟨_,_,_,hrer⟩:=hS p _ hsp;exact hrer
       ·obtain⟨_,_,_,_,_,_,_,_,hrer⟩:=hS p _ hsp;exact hrer
      obtain⟨d2,op2,o2,k1,k2,kk⟩:=ug hl hrer
      rw[ho] at k2;simp only[K0] at k2;subst k2
      rw[hdj] at k1;simp only[K0] at k1;subst k1
      obtain⟨q1,q2⟩:=rY hS (a:=p+1) M oM hMn (fun i hi hi'=>hp4 i oM hi')
      have hvd:(S M).s d=(S (p+1)).s d:=q2 d fun i hi hi' h=>by have:=huniq j i d hdj h;omega
      have hsame:∀ (xs:List SX) (fo:Bool),nb kp fo true ops sos (sos.map bh) j o xs=true->∀ n,.t n∈xs->(fo=true->((S (p+1)).s n).firm=true)->kO z (bD (sos.map bh) M (fun i=>listed.getD i false)) (S M).s n=(S (p+1)).s n:=fun xs fo hxs n hx hfm=>by
       rcases operand2 _ _ _ hxs n hx with⟨o1,o3⟩|⟨m1,m2,b,m3,m4,m5,m6,_,m7⟩
       ·rw[ef o1,q2 n fun i hi hi' h=>by have:=o3 i h;omega]
       ·have:=m7 p hp2 hp3
        exact first n b (p+1) m1 m3 oM oM m5 m6 (hfm m2)
      have hfirm:∀ {op2:l_} {v:SV} {pp:Prop},rd (S (p+1)).h (S (p+1)).s op2=some (pp,v)->∀ n,.t n∈mN op2->(oR op2||wc op2 (th sp))=true->((S (p+1)).s n).firm=true:=fun hv n hn hf=>by
       rw[LV] at hf
       rcases hf with hf|hf
       ·exact CO hv hf hn
       ·exact B2 hf hrer hn
      rcases kk with⟨k3,k4,k5,pp,k6,k7⟩|⟨gt,gw,k4,k5,pp,k6,k7⟩
      ·refine⟨.r d op2,by simp only[iI,k3,k4];rfl,rfl,pp, ?_,k7⟩
       rw[q1,hvd,<-k6]
       refine vI fun x hx=> ?_
       cases x with
       |t n=>exact hsame _ _ k5 n hx (hfirm k6 n hx)
       |c v=>rfl
       |f i=>rfl
      ·have hgs:((S (p+1)).s gt).firm=true:=by
        simp only[IJ] at k6
        split at k6
        ·rename_i hb;rw[hb];rfl
        ·rename_i hb;rw[hb];rfl
        ·cases k6
       have e1:=hsame _ _ k5 gt oS (fun _=>hgs)
       refine⟨.g gt gw (some d) (.r d op2),k4,by simp[gH], ?_⟩
       simp only[YS]
       simp only[IJ] at k6
       split at k6
       ·rename_i b hb
        split at k6
        ·rename_i hbw
         refine .inl ⟨b,e1.trans hb,.inl ⟨hbw,pp, ?_,k7⟩⟩
         rw[q1,hvd,<-k6]
         refine vI fun x hx=> ?_
         cases x with
         |t n=>exact hsame _ _ k5 n (Mv _ hx) (hfirm k6 n hx)
         |c v=>rfl
         |f i=>rfl
        ·rename_i hbw
         simp only[K0,K2] at k6
         refine .inl ⟨b,e1.trans hb,.inr ⟨?_,hvd.trans k6.2.symm⟩⟩
         exact Hm hbw
       ·rename_i hb
        simp only[K0,K2] at k6
        exact .inr ⟨e1.trans hb,hvd.trans k6.2.symm⟩
       ·cases k6
   obtain⟨so',hm',hd',hy'⟩:=key
   refine rS hr hm' (x9 hd' hy') fun σ' κ' φ' a' w' hr' hk=> ?_
   subst hk
   refine ih (listed.setIfInBounds j true) M κ' φ' a' w' (by simp[hls]) hli hcl' hMn ?_ hM ?_ ?_
   ·intro i hi hx;rw[hL',hbef i hi hx];rfl
   ·intro i hi;rw[hL',hun i hi];simp;omega
   ·rw[<-hstate];exact hr'
theorem wi {ops:Array Oper} {sos:List SO} {K:St->Prop} {Q:Exit->Act->World->Prop} {σ:St} {a:Act} {w:World}
  (hQ:∀ σ' κ' φ' a' w',b_ c σ' κ' φ' a' w'->K σ'->Q .normal a' w') (hm:aX P c.N ops ops.toList sos=true) (hord:q6 true P c.N ops sos (sos.map bh) 0 ops.toList sos=true) (himp:∀ U,∃ κ' φ',b_ c ⟨kO (lK σ.s) U σ.s,σ.h⟩ κ' φ' a w) (h:aA P K sos σ):
  wpAny P .any ops Q ops.size (Array.replicate ops.size false) a {w with drawn:=w.drawn+1}:=by
 obtain⟨hml,hmo⟩:=eB hm
 have hlen:sos.length=ops.size:=by simp at hml;omega
 obtain⟨S,hS0,hS,hK⟩:=u_ sos σ (fun so hso=>by
  obtain⟨j,hj,hj2⟩:=M5 hso
  have:=nc hord j ops[j] so oS (by rw[K6 hj,hj2])
  simp only[oV,K1] at this
  exact this.1.1.1.1) h
 obtain⟨M,h1,h2,h3,h4⟩:=Ih (fX sos) sos.length 0 oM
 have hrep:∀ i,(Array.replicate ops.size false).getD i false=false:=fun i=>by
  by_cases hi:i<ops.size<;>simp[hi]
 obtain⟨κ',φ',hr⟩:=himp (bD (sos.map bh) M (fun i=>(Array.replicate ops.size false).getD i false))
 refine q9 (c:=c) hQ hm (DE σ.s) (fun _ t h=>by rw[hS0] at h⊢;simp[lK,h]) (fun t=>by rw[hS0];exact AY σ.s t) hord hS hK ops.size _ M κ' φ' a _ oS ?_ ?_ h2 ?_ h4 (fun i _=>hrep i) ?_
 ·have:tZ ops.size (Array.replicate ops.size false)=List.range ops.size:=by
   unfold tZ
   rw[List.filter_eq_self]
   intro i hi
   simp at hi
   simp[hi]
  rw[this];simp
 ·intro i o hi
  rw[hrep] at hi;cases hi
 ·intro i hi hx
  rw[h3 i oM hi] at hx;cases hx
 ·obtain⟨q1,q2⟩:=rY hS M h1 h2 (fun i hi hi'=>h3 i hi hi')
  rw[q1,hS0]
  have:kO (lK σ.s) (bD (sos.map bh) M (fun i=>(Array.replicate ops.size false).getD i false)) (S M).s=kO (lK σ.s) (bD (sos.map bh) M (fun i=>(Array.replicate ops.size false).getD i false)) σ.s:=by
   refine yk fun t ht=> ?_
   rw[q2 t fun i hi hi' he=>ht ⟨i,hi',he,hrep i⟩,hS0]
  rw[this]
  exact hr.grown ((Below.refl _ _).drew)
theorem zx (hmix:P.follows .mixedOrders=true) {id:Nat} {ops:Array Oper} {sos:List SO} {K:St->Prop} {Q:Exit->Act->World->Prop} {σ:St} {a:Act} {w:World}
  (hQ:∀ σ' κ' φ' a' w',b_ c σ' κ' φ' a' w'->K σ'->Q .normal a' w') (hm:aX P c.N ops ops.toList sos=true) (hord:q6 true P c.N ops sos (sos.map bh) 0 ops.toList sos=true) (himp:∀ U,∃ κ' φ',b_ c ⟨kO (lK σ.s) U σ.s,σ.h⟩ κ' φ' a w) (h:aA P K sos σ):
  (Code.region id ops true).wp P Q a w:=wp_region_any hmix (wi hQ hm hord himp h)
end
def cn (π:List Nat) (ops:Array Oper):Array Oper:=
 (π.filterMap fun i=>(ops[i]?).map fun o=>{o with after:=o.after.map fun e=>{e with on:=π.idxOf e.on}}).toArray
def iJ (π:List Nat) (ops:Array Oper):Bool:=
 π.length==ops.size&&π.all (fun i=>decide (i<ops.size))&&(List.range ops.size).all (fun i=>π.contains i)&&decide π.Nodup&&ops.all (fun o=>o.guard==none)
theorem gv {α β:Type} {f:α->Option β} {g:α->β}:∀ {l:List α},(∀ x∈l,f x=some (g x))->l.filterMap f=l.map g
 |[],_=>rfl
 |x::l,h=>by rw[List.filterMap_cons_some (h x oS),gv fun y hy=>h y (by simp[hy])];rfl
theorem wj {P:Program} {π:List Nat} {ops:Array Oper} {Q:Exit->Act->World->Prop} (hp:iJ π ops=true):∀ (fuel:Nat) (listed listed':Array Bool) (a:Act) (w:World),listed.size=ops.size->listed'.size=ops.size->
  (∀ k i:Nat,π[k]?=some i->listed'.getD k false=listed.getD i false)->wpAny P .any (cn π ops) Q fuel listed' a w->wpAny P .any ops Q fuel listed a w:=by
 simp only[iJ,K1,La,K_,Lj,Mg,LM,List.contains_iff_mem] at hp
 obtain⟨⟨⟨⟨hlen,hlt⟩,hmem⟩,hnd⟩,hg⟩:=hp
 have hsz:(cn π ops).size=ops.size:=by
  unfold cn
  rw[gv (g:=fun i=>{(ops.getD i ⟨none,.move (.tmp 0),0, "",#[],none⟩) with after:=((ops.getD i ⟨none,.move (.tmp 0),0, "",#[],none⟩).after.map fun e=>{e with on:=π.idxOf e.on})})]
  ·simp[hlen]
  ·intro i hi
   have:=hlt i hi
   simp[this]
 have hget:∀ k i:Nat,π[k]?=some i->∃ o,ops[i]?=some o/\(cn π ops)[k]?=some {o with after:=o.after.map fun e=>{e with on:=π.idxOf e.on}}:=by
  intro k i hk
  have hi:i<ops.size:=hlt i (K8 hk)
  refine⟨ops[i],by simp, ?_⟩
  unfold cn
  rw[gv (g:=fun i=>{(ops.getD i ⟨none,.move (.tmp 0),0, "",#[],none⟩) with after:=((ops.getD i ⟨none,.move (.tmp 0),0, "",#[],none⟩).after.map fun e=>{e with on:=π.idxOf e.on})})]
  ·simp[hk,hi]
  ·intro j hj
   have:=hlt j hj
   simp[this]
 have hidx:∀ i:Nat,i<ops.size->π[π.idxOf i]?=some i:=by
  intro i hi
  have:=hmem i hi
  rw[K6 (List.idxOf_lt_length_iff.2 this),List.getElem_idxOf]
 have hready:∀ (listed listed':Array Bool),listed.size=ops.size->listed'.size=ops.size->(∀ k i:Nat,π[k]?=some i->listed'.getD k false=listed.getD i false)->∀ k i:Nat,π[k]?=some i->(k∈Region.ready .any (cn π ops) listed'↔i∈Region.ready .any ops listed):=by
  intro listed listed' h1 h2 hl k i hk
  obtain⟨o,ho,ho'⟩:=hget k i hk
  have hi:i<ops.size:=(Lo.1 ho).1
  have hk':k<ops.size:=by have:=(K5.1 hk).1;omega
  have hd:listed'.getD k true=listed.getD i true:=by
   have:=hl k i hk
   have a1:listed'.getD k false=listed'.getD k true:=by simp[LB,h2,hk']
   have a2:listed.getD i false=listed.getD i true:=by simp[LB,h1,hi]
   rw[<-a1,<-a2];exact this
  have hon:∀ x:Nat,listed'.getD (π.idxOf x) false=listed.getD x false:=by
   intro x
   by_cases hx:x<ops.size
   ·exact hl _ _ (hidx x hx)
   ·have hnm:x∉π:=fun hm=>hx (hlt x hm)
    rw[List.idxOf_eq_length hnm]
    simp[LB,h1,h2,hlen,hx]
  rw[mem_ready,mem_ready,hd]
  constructor
  ·rintro⟨q1,o2,q2,q3⟩
   rw[ho'] at q2;simp only[K0] at q2;subst q2
   refine⟨q1,o,ho,fun e he hb=> ?_⟩
   have:=q3 {e with on:=π.idxOf e.on} (by simp only[Array.mem_map];exact⟨e,he,rfl⟩) hb
   rw[<-hon];exact this
  ·rintro⟨q1,o2,q2,q3⟩
   rw[ho] at q2;simp only[K0] at q2;subst q2
   refine⟨q1,_,ho',fun e he hb=> ?_⟩
   simp only[Array.mem_map] at he
   obtain⟨e0,he0,rfl⟩:=he
   rw[hon];exact q3 e0 he0 hb
 have hnil:∀ (listed listed':Array Bool),listed.size=ops.size->listed'.size=ops.size->(∀ k i:Nat,π[k]?=some i->listed'.getD k false=listed.getD i false)->Region.ready .any ops listed=[]->Region.ready .any (cn π ops) listed'=[]:=by
  intro listed listed' h1 h2 hl hn
  cases hr:Region.ready .any (cn π ops) listed' with
  |nil=>rfl
  |cons k l=>
   exfalso
   have hk:k∈Region.ready .any (cn π ops) listed':=by rw[hr];simp
   obtain⟨_,o,ho,_⟩:=mem_ready.1 hk
   have hkl:k<π.length:=by have:=(Lo.1 ho).1;omega
   have:=(hready listed listed' h1 h2 hl k π[k] (K6 hkl)).1 hk
   rw[hn] at this;simp at this
 intro fuel
 induction fuel with
 |zero=>
  intro listed listed' a w h1 h2 hl h
  refine⟨?_,h.2⟩
  cases hr:Region.ready .any ops listed with
  |nil=>rfl
  |cons i l=>
   exfalso
   have hi:i∈Region.ready .any ops listed:=by rw[hr];simp
   obtain⟨_,o,ho,_⟩:=mem_ready.1 hi
   have:=(hready listed listed' h1 h2 hl _ _ (hidx i (Lo.1 ho).1)).2 hi
   rw[h.1] at this;simp at this
 |succ fuel ih=>
  intro listed listed' a w h1 h2 hl h
  refine⟨fun hn=>h.1 (hnil listed listed' h1 h2 hl hn),fun i hi=> ?_⟩
  obtain⟨_,o,ho,_⟩:=mem_ready.1 hi
  have hio:i<ops.size:=(Lo.1 ho).1
  have hk:=hidx i hio
  have hk':=(hready listed listed' h1 h2 hl _ _ hk).2 hi
  have h3:=h.2 _ hk'
  obtain⟨o2,ho2,ho'⟩:=hget _ _ hk
  rw[ho] at ho2;simp only[K0] at ho2;subst ho2
  have hguard:o.guard=none:=by simpa using hg o (Array.mem_of_getElem? ho)
  unfold wpOp at h3⊢
  simp only[ho'] at h3
  simp only[ho]
  have hw1:Region.wanted o (yielded ops a.tmps)=true:=by simp[Region.wanted,hguard]
  have hw2:Region.wanted {o with after:=o.after.map fun e=>{e with on:=π.idxOf e.on}} (yielded (cn π ops) a.tmps)=true:=by simp[Region.wanted,hguard]
  rw[hw2,if_pos rfl] at h3
  rw[hw1,if_pos rfl]
  have hmono:∀ a' w',wpAny P .any (cn π ops) Q fuel (listed'.setIfInBounds (π.idxOf i) true) a' w'->wpAny P .any ops Q fuel (listed.setIfInBounds i true) a' w':=fun a' w'=>ih _ _ a' w' (by simp[h1]) (by simp[h2]) fun k j hkj=>by
   have hkl:k<π.length:=(K5.1 hkj).1
   by_cases hij:j=i
   ·subst hij
    have hki:k=π.idxOf j:=by
     have e1:=(K5.1 hkj).2
     have e2:=(K5.1 hk).2
     exact(List.getElem_inj hnd).1 (e1.trans e2.symm)
    subst hki
    simp[LB,h1,h2,hio,hlen▸hkl]
   ·have hki:π.idxOf i≠k:=fun e=>by
     subst e
     rw[hk] at hkj;simp at hkj;exact hij hkj.symm
    rw[getD_set_ne false hki,getD_set_ne false (Ne.symm hij)]
    exact hl k j hkj
  rcases h3 with h3|h3
  ·exact .inl (Oper.wp_mono hmono h3)
  ·exact .inr h3
theorem B3 {P:Program} {c:Cx} {π:List Nat} {ops:Array Oper} {sos:List SO} {K:St->Prop} {Q:Exit->Act->World->Prop} {σ:St} {κ:Nat->Value} {φ:Nat->List Nat} {a:Act} {w:World} (hr:b_ c σ κ φ a w)
  (hQ:∀ σ' κ' φ' a' w',b_ c σ' κ' φ' a' w'->K σ'->Q .normal a' w') (hp:iJ π ops=true) (hm:aX P c.N (cn π ops) (cn π ops).toList sos=true) (hord:q6 true P c.N (cn π ops) sos (sos.map bh) 0 (cn π ops).toList sos=true) (h:aA P K sos σ):
  wpAny P .any ops Q ops.size (Array.replicate ops.size false) a {w with drawn:=w.drawn+1}:=by
 have h1:=wi hQ hm hord (fun U=>na (σ:=σ) (σ':=⟨kO (lK σ.s) U σ.s,σ.h⟩) (fun t=>AZ σ.s U t) (fun _=> .inl rfl) _ _ _ _ _ hr) h
 have hlen:π.length=ops.size:=by simp only[iJ,K1,La] at hp;exact hp.1.1.1.1
 have hsz:(cn π ops).size=ops.size:=by
  have:=Na List.length (show(cn π ops).toList=_ from rfl)
  have h2:=hp
  simp only[iJ,K1,La,Lj,K_] at h2
  unfold cn
  rw[gv (g:=fun i=>{(ops.getD i ⟨none,.move (.tmp 0),0, "",#[],none⟩) with after:=((ops.getD i ⟨none,.move (.tmp 0),0, "",#[],none⟩).after.map fun e=>{e with on:=π.idxOf e.on})})]
  ·simp[hlen]
  ·intro i hi
   have:=h2.1.1.1.2 i hi
   simp[this]
 rw[hsz] at h1
 refine wj hp ops.size _ _ a _ oS oS (fun k i hk=> ?_) h1
 have hk':k<ops.size:=by have:=(K5.1 hk).1;omega
 by_cases hi:i<ops.size<;>simp[LB,hk',hi]
theorem zy {P:Program} {c:Cx} (hmix:P.follows .mixedOrders=true) {id:Nat} {π:List Nat} {ops:Array Oper} {sos:List SO} {K:St->Prop} {Q:Exit->Act->World->Prop} {σ:St} {κ:Nat->Value} {φ:Nat->List Nat} {a:Act} {w:World} (hr:b_ c σ κ φ a w)
  (hQ:∀ σ' κ' φ' a' w',b_ c σ' κ' φ' a' w'->K σ'->Q .normal a' w') (hp:iJ π ops=true) (hm:aX P c.N (cn π ops) (cn π ops).toList sos=true) (hord:q6 true P c.N (cn π ops) sos (sos.map bh) 0 (cn π ops).toList sos=true) (h:aA P K sos σ):
  (Code.region id ops true).wp P Q a w:=wp_region_any hmix (B3 hr hQ hp hm hord h)
def dI (ops:Array Oper) (j i:Nat):Array Oper:=match ops[j]? with
 |some o=>ops.setIfInBounds j {o with after:=o.after.push ⟨i,.data⟩}
 |none=>ops
theorem nd {ops:Array Oper} {j i k:Nat} {o:Oper} (ho:ops[k]?=some o):(dI ops j i)[k]?=some {o with after:=if k=j then o.after.push ⟨i,.data⟩ else o.after}:=by
 unfold dI
 by_cases hk:k=j
 ·subst hk
  have hlt:k<ops.size:=(Lo.1 ho).1
  simp only[ho,LX]
  simp[hlt]
 ·simp only[hk,LI]
  cases hj:ops[j]? with
  |none=>exact ho
  |some oj=>simp only;rw[Array.getElem?_setIfInBounds_ne (Ne.symm hk)];exact ho
theorem yn {ops:Array Oper} {j i k:Nat} (ho:ops[k]?=none):(dI ops j i)[k]?=none:=by
 unfold dI
 cases hj:ops[j]? with
 |none=>exact ho
 |some oj=>
  have:ops.size<=k:=by simpa using ho
  simp;omega
theorem lq {ops:Array Oper} {j i:Nat}:(dI ops j i).size=ops.size:=by
 unfold dI;cases ops[j]?<;>simp
theorem nL {ops:Array Oper} {j i k:Nat} {listed:Array Bool}:k∈Region.ready .any (dI ops j i) listed↔k∈Region.ready .any ops listed/\(k=j->listed.getD i false=true):=by
 rw[mem_ready,mem_ready]
 constructor
 ·rintro⟨h1,o',ho',h2⟩
  cases ho:ops[k]? with
  |none=>rw[yn ho] at ho';cases ho'
  |some o=>
   rw[nd ho] at ho'
   simp only[K0] at ho'
   subst ho'
   refine⟨⟨h1,o,rfl,fun e he hb=>h2 e ?_ hb⟩,fun hk=> ?_⟩
   ·dsimp only;split
    ·exact Array.mem_push.2 (.inl he)
    ·exact he
   ·exact h2 ⟨i,.data⟩ (by dsimp only;rw[if_pos hk];exact Array.mem_push.2 (.inr rfl)) rfl
 ·rintro⟨⟨h1,o,ho,h2⟩,h3⟩
  refine⟨h1,_,nd ho,fun e he hb=> ?_⟩
  dsimp only at he
  split at he
  ·rename_i hk
   rcases Array.mem_push.1 he with he|rfl
   ·exact h2 e he hb
   ·exact h3 hk
  ·exact h2 e he hb
theorem nM {P:Program} {ops:Array Oper} {Q:Exit->Act->World->Prop} {k:Nat} {o:Oper} {K:Act->World->Prop} {a:Act} {w:World} (ho:ops[k]?=some o) (hg:o.guard=none):wpOp P ops Q k K a w↔(o.wp P a w K Q\/(o.asks P a w/\LetsOut Q)):=by
 have hw:Region.wanted o (yielded ops a.tmps)=true:=by simp[Region.wanted,hg]
 unfold wpOp
 simp only[ho,hw,LX]
theorem ti {P:Program} {ops:Array Oper} {Q:Exit->Act->World->Prop} {j i k:Nat} {o:Oper} {K:Act->World->Prop} {a:Act} {w:World} (ho:ops[k]?=some o) (hg:o.guard=none):wpOp P (dI ops j i) Q k K a w↔(o.wp P a w K Q\/(o.asks P a w/\LetsOut Q)):=by
 have h:=nM (P:=P) (Q:=Q) (K:=K) (a:=a) (w:=w) (o:={o with after:=if k=j then o.after.push ⟨i,.data⟩ else o.after}) (nd (j:=j) (i:=i) ho) hg
 exact h
theorem wk {P:Program} {ops:Array Oper} {Q:Exit->Act->World->Prop} {i j:Nat} (hg:∀ (k:Nat) (o:Oper),ops[k]?=some o->o.guard=none):∀ (fuel:Nat) (listed:Array Bool) (a:Act) (w:World),listed.getD i false=true->
  wpAny P .any (dI ops j i) Q fuel listed a w->wpAny P .any ops Q fuel listed a w:=by
 intro fuel
 have heq:∀ listed:Array Bool,listed.getD i false=true->∀ k,k∈Region.ready .any (dI ops j i) listed↔k∈Region.ready .any ops listed:=fun listed hl k=>by
  rw[nL];exact⟨fun h=>h.1,fun h=>⟨h,fun _=>hl⟩⟩
 have hnil:∀ listed:Array Bool,listed.getD i false=true->(Region.ready .any ops listed=[]↔Region.ready .any (dI ops j i) listed=[]):=fun listed hl=>by
  simp only[List.eq_nil_iff_forall_not_mem,heq listed hl]
 induction fuel with
 |zero=>intro listed a w hl h;exact⟨(hnil listed hl).2 h.1,h.2⟩
 |succ fuel ih=>
  intro listed a w hl h
  refine⟨fun hn=>h.1 ((hnil listed hl).1 hn),fun k hk=> ?_⟩
  obtain⟨_,o,ho,_⟩:=mem_ready.1 hk
  have h3:=(ti ho (hg k o ho)).1 (h.2 k ((heq listed hl k).2 hk))
  exact(nM ho (hg k o ho)).2 (h3.imp (Oper.wp_mono fun a' w'=>ih _ a' w' (getD_set_true hl)) id)
def wn (i:Nat) (ops:Array Oper) (π:List Nat) (s1 s2:List SO):Bool:=
 ops.all (fun o=>o.guard==none)&&decide (i+1<ops.size)&&(List.range i).all (fun k=>π[k]?==some k&& !fX s1 k)&&π[i]?==some (i+1)&&π[i+1]?==some i&&fX s1 i&&fX s2 i&&(List.range ops.size).all (fun k=>decide (k<i+2)||π[k]?==some k)
theorem qv {ops:Array Oper} {listed:Array Bool} (hcl:∀ (i:Nat) o,listed.getD i false=true->ops[i]?=some o->∀ e∈o.after,Region.binds .any e=true->listed.getD e.on false=true) {j m:Nat} (hj:listed.getD j false=false):
  ∀ (x:Nat) o,listed.getD x false=true->(dI ops j m)[x]?=some o->∀ e∈o.after,Region.binds .any e=true->listed.getD e.on false=true:=fun x o hx ho e he hb=>by
 cases hox:ops[x]? with
 |none=>rw[yn hox] at ho;cases ho
 |some o'=>
  rw[nd hox] at ho
  simp only[K0] at ho;subst ho
  have hne:x≠j:=fun h=>by rw[h,hj] at hx;cases hx
  simp only[hne,LI] at he
  exact hcl x o' hx hox e he hb
theorem B4 {P:Program} {c:Cx} {ops:Array Oper} {sos1 sos2 pre:List SO} {i:Nat} {π:List Nat} {S1 S2:Nat->St} {K:St->Prop} {Q:Exit->Act->World->Prop}
  (hQ:∀ σ' κ' φ' a' w',b_ c σ' κ' φ' a' w'->K σ'->Q .normal a' w') (hpl:wn i ops π sos1 sos2=true) (hp1:sos1.take i=pre) (hp2:sos2.take i=pre) (hpi:pre.length=i)
  (hm1:aX P c.N (dI ops (i+1) i) (dI ops (i+1) i).toList sos1=true) (ho1:DF P c.N (dI ops (i+1) i) sos1 (sos1.map bh) 0 (dI ops (i+1) i).toList sos1=true)
  (hp:iJ π (dI ops i (i+1))=true) (hm2:aX P c.N (cn π (dI ops i (i+1))) (cn π (dI ops i (i+1))).toList sos2=true) (ho2:DF P c.N (cn π (dI ops i (i+1))) sos2 (sos2.map bh) 0 (cn π (dI ops i (i+1))).toList sos2=true)
  (hS1:∀ (j:Nat) (so:SO),sos1[j]?=some so->DC P so (S1 j) (S1 (j+1))) (hK1:K (S1 sos1.length)) (hS2:∀ (j:Nat) (so:SO),sos2[j]?=some so->DC P so (S2 j) (S2 (j+1))) (hK2:K (S2 sos2.length)) (hSS:S2 i=S1 i):
  ∀ (fuel:Nat) (listed:Array Bool) (κ:Nat->Value) (φ:Nat->List Nat) (a:Act) (w:World),listed.size=ops.size->(tZ ops.size listed).length=fuel->
   (∀ (x:Nat) o,listed.getD x false=true->ops[x]?=some o->∀ e∈o.after,Region.binds .any e=true->listed.getD e.on false=true)->(∀ k,i<=k->listed.getD k false=false)->
   b_ c ⟨er (bD (sos1.map bh) i (fun k=>listed.getD k false)) (S1 i).s,(S1 i).h⟩ κ φ a w->wpAny P .any ops Q fuel listed a w:=by
 simp only[wn,K1,K_,Lj,LM,La,L0,LV] at hpl
 obtain⟨⟨⟨⟨⟨⟨⟨hg0,hsz⟩,hlow⟩,hπi⟩,hπj⟩,hX1⟩,hX2⟩,hhigh⟩:=hpl
 have hg:∀ (k:Nat) (o:Oper),ops[k]?=some o->o.guard=none:=fun k o ho=>by
  have:=(Mg.1 hg0) o (Array.mem_of_getElem? ho)
  simpa using this
 obtain⟨hml,hmo⟩:=eB hm1
 have hlen1:sos1.length=ops.size:=by simp[lq] at hml;omega
 have hps:(cn π (dI ops i (i+1))).size=ops.size:=by
  have hp':=hp
  simp only[iJ,K1,La,Lj,K_] at hp'
  unfold cn
  rw[gv (g:=fun k=>{((dI ops i (i+1)).getD k ⟨none,.move (.tmp 0),0, "",#[],none⟩) with after:=(((dI ops i (i+1)).getD k ⟨none,.move (.tmp 0),0, "",#[],none⟩).after.map fun e=>{e with on:=π.idxOf e.on})})]
  ·have:=hp'.1.1.1.1;simp[lq] at this⊢;exact this
  ·intro k hk
   have:=hp'.1.1.1.2 k hk
   simp[this]
 have hlen2:sos2.length=ops.size:=by
  obtain⟨h,_⟩:=eB hm2
  have e:(cn π (dI ops i (i+1))).toList.length=ops.size:=by rw[Array.length_toList];exact hps
  omega
 have hidx:∀ y,y<i->π.idxOf y=y:=fun y hy=>by
  have h1:=(hlow y hy).1
  have hnd:π.Nodup:=by
   have hp':=hp
   simp only[iJ,K1,K_] at hp'
   exact hp'.1.2
  obtain⟨hlt,he⟩:=K5.1 h1
  have hmem:y∈π:=K8 h1
  have hil:=List.idxOf_lt_length_iff.2 hmem
  have h2:=List.getElem_idxOf hil
  exact(List.getElem_inj hnd).1 (h2.trans he.symm)
 have hdl12:∀ k,k<i->(sos2.map bh)[k]?=(sos1.map bh)[k]?:=fun k hk=>by
  have e1:sos1[k]?=pre[k]?:=by rw[<-hp1,Md hk]
  have e2:sos2[k]?=pre[k]?:=by rw[<-hp2,Md hk]
  simp[e1,e2]
 intro fuel
 induction fuel with
 |zero=>
  intro listed κ φ a w hls hu _ hun hr
  exfalso
  have:i∈tZ ops.size listed:=by
   simp only[tZ,MS,LM]
   refine⟨by omega, ?_⟩
   have h0:=hun i (K9 _)
   have:i<listed.size:=by omega
   simp[this] at h0⊢;exact h0
  rw[Ld.1 hu] at this;simp at this
 |succ fuel ih=>
  intro listed κ φ a w hls hu hcl hun hr
  have run1:wpAny P .any (dI ops (i+1) i) Q (fuel+1) listed a w:=
   q9 (c:=c) hQ hm1 (z:=fun _=> .d .any) (fun _ _=>rfl) (fun h=>by cases h) (fun _=> .inl rfl) ho1 hS1 hK1 (fuel+1) listed i κ φ a w (by rw[lq];exact hls) (by rw[lq];exact hu) (qv hcl (hun (i+1) oM)) oM
    (fun k hk hx=>by rw[(hlow k hk).2] at hx;cases hx) (.inr ⟨by omega,hX1⟩) hun hr
  have run2:wpAny P .any (dI ops i (i+1)) Q (fuel+1) listed a w:=by
   refine wj hp (fuel+1) listed listed a w (by rw[lq];exact hls) (by rw[lq];exact hls) (fun k y hk=> ?_) ?_
   ·rcases Lx k i with hki|hki
    ·rw[(hlow k hki).1] at hk;simp at hk;rw[hk]
    ·have hy:i<=y:=by
      rcases Lx y i with hyi|hyi
      ·exfalso
       have h1:=(hlow y hyi).1
       have hnd:π.Nodup:=by
        have hp':=hp
        simp only[iJ,K1,K_] at hp'
        exact hp'.1.2
       obtain⟨l1,e1⟩:=K5.1 h1
       obtain⟨l2,e2⟩:=K5.1 hk
       have:=(List.getElem_inj hnd).1 (e1.trans e2.symm)
       omega
      ·exact hyi
     rw[hun k hki,hun y hy]
   ·refine q9 (c:=c) hQ hm2 (z:=fun _=> .d .any) (fun _ _=>rfl) (fun h=>by cases h) (fun _=> .inl rfl) ho2 hS2 hK2 (fuel+1) listed i κ φ a w (by rw[hps];exact hls) (by rw[hps];exact hu) ?_ oM (fun k hk hx=> ?_) (.inr ⟨by omega,hX2⟩) hun ?_
    ·intro x o hx ho e he hb
     have hxi:x<i:=by
      rcases Lx x i with h|h
      ·exact h
      ·rw[hun x h] at hx;cases hx
     cases hox:ops[x]? with
     |none=>
          have:ops.size<=x:=by simpa using hox
          omega
     |some ox=>
      have hπx:=(hlow x hxi).1
      have hget:(cn π (dI ops i (i+1)))[x]?=some {ox with after:=ox.after.map fun e=>{e with on:=π.idxOf e.on}}:=by
       have hp':=hp
       simp only[iJ,K1,La,Lj,K_] at hp'
       unfold cn
       rw[gv (g:=fun k=>{((dI ops i (i+1)).getD k ⟨none,.move (.tmp 0),0, "",#[],none⟩) with after:=(((dI ops i (i+1)).getD k ⟨none,.move (.tmp 0),0, "",#[],none⟩).after.map fun e=>{e with on:=π.idxOf e.on})})]
       ·have hne:x≠i:=by omega
        have:=nd (j:=i) (i:=i+1) hox
        simp only[hne,LI] at this
        simp[hπx,this]
       ·intro k hk
        have:=hp'.1.1.1.2 k hk
        simp[this]
      rw[hget] at ho
      simp only[K0] at ho;subst ho
      simp only[Array.mem_map] at he
      obtain⟨e0,he0,rfl⟩:=he
      have h1:=hcl x ox hx hox e0 he0 hb
      have hlt:e0.on<i:=by
       rcases Lx e0.on i with h|h
       ·exact h
       ·rw[hun _ h] at h1;cases h1
      simp only[hidx _ hlt];exact h1
    ·have e1:sos1[k]?=pre[k]?:=by rw[<-hp1,Md hk]
     have e2:sos2[k]?=pre[k]?:=by rw[<-hp2,Md hk]
     have h3:=(hlow k hk).2
     simp only[fX,e2] at hx
     simp only[fX,e1] at h3
     rw[h3] at hx;cases hx
    ·rw[hSS]
     have:bD (sos2.map bh) i (fun k=>listed.getD k false)=bD (sos1.map bh) i (fun k=>listed.getD k false):=by
      funext t
      apply propext
      constructor
      ·rintro⟨k,h1,h2,h3⟩;exact⟨k,h1,by rw[<-hdl12 k h1];exact h2,h3⟩
      ·rintro⟨k,h1,h2,h3⟩;exact⟨k,h1,by rw[hdl12 k h1];exact h2,h3⟩
     rw[this];exact hr
  have hr1:Region.ready .any ops listed=[]->Region.ready .any (dI ops (i+1) i) listed=[]:=fun h=>by
   rw[List.eq_nil_iff_forall_not_mem] at *
   exact fun k hk=>h k (nL.1 hk).1
  refine⟨fun hn=>run1.1 (hr1 hn),fun k hk=> ?_⟩
  obtain⟨h0,o,ho,hedge⟩:=mem_ready.1 hk
  have hks:k<listed.size:=by rw[hls];exact(Lo.1 ho).1
  have hset:(listed.setIfInBounds k true).getD k false=true:=by simp[hks]
  by_cases hki:k=i
  ·subst hki
   have h3:=(ti ho (hg k o ho)).1 (run1.2 k (nL.2 ⟨hk,fun h=>by omega⟩))
   exact(nM ho (hg k o ho)).2 (h3.imp (Oper.wp_mono fun a' w'=>wk hg fuel _ a' w' hset) id)
  by_cases hkj:k=i+1
  ·subst hkj
   have h3:=(ti ho (hg _ o ho)).1 (run2.2 (i+1) (nL.2 ⟨hk,fun h=>by omega⟩))
   exact(nM ho (hg _ o ho)).2 (h3.imp (Oper.wp_mono fun a' w'=>wk hg fuel _ a' w' hset) id)
  have hkn:listed.getD k false=false:=by
   simp only[LB] at h0⊢
   simpa[hks] using h0
  have hcl':=qQ hcl ho hedge oM
  have hL':∀ x,(listed.setIfInBounds k true).getD x false=(listed.getD x false||x==k):=fun x=>by
   by_cases hxk:k=x
   ·subst hxk;simp[hks]
   ·rw[getD_set_ne false hxk];simp[Ne.symm hxk]
  have hord1:∀ (j:Nat) oj so,(dI ops (i+1) i)[j]?=some oj->sos1[j]?=some so->oV false P c.N (dI ops (i+1) i) sos1 (sos1.map bh) j oj so=true:=fun j oj so h1 h2=>by
   have:=nc ho1 j oj so (by simpa using h1) h2
   simpa using this
  have hk1:(dI ops (i+1) i)[k]?=some o:=by
   have:=nd (j:=i+1) (i:=i) ho
   simpa only[hkj,LI] using this
  have hkl:k<sos1.length:=by omega
  obtain⟨so,hso⟩:∃ so,sos1[k]?=some so:=⟨_,K6 hkl⟩
  have hop:=hord1 k o so hk1 hso
  have hklt:k<i:=by
   rcases Lx k i with h|h
   ·exact h
   ·exfalso
    obtain⟨s0,hs0⟩:∃ s0,sos1[i]?=some s0:=⟨_,K6 oM⟩
    simp only[oV,K1] at hop
    have h1:=Lj.1 hop.2 i (LM.2 oM)
    have hx0:ue s0=true:=by simpa[fX,hs0] using hX1
    simp only[hs0,hx0,LX] at h1
    have hclA:∀ (x:Nat) ox,(listed.setIfInBounds k true).getD x false=true->(dI ops (i+1) i)[x]?=some ox->∀ e∈ox.after,Region.binds .any e=true->(listed.setIfInBounds k true).getD e.on false=true:=
     qv hcl' (by rw[hL',hun (i+1) oM];simp;omega)
    have h2:=gN hclA k [k] (by simp[hL']) h1
    rw[hL',hun i (K9 _)] at h2
    simp at h2;omega
  have hX:ue so=false:=by have:=(hlow k hklt).2;simpa[fX,hso] using this
  obtain⟨d,v,hd,hy,he⟩:=rX hX (hS1 k so hso)
  have hdE:bh so=some d:=by cases so<;>first|exact hd|simp[ue] at hX
  have hdk:(sos1.map bh)[k]?=some (some d):=by simp[hso,hdE]
  have huniq:∀ (b:Nat),(sos1.map bh)[b]?=some (some d)->b=k:=fun b hb=>by
   have hop':=hop
   simp only[oV,K1] at hop'
   have:=Lj.1 hop'.1.2 b (LM.2 (K5.1 hb).1)
   simpa[hdk,hb] using this
  have hxs:nb false (Kc so) (CN so) (dI ops (i+1) i) sos1 (sos1.map bh) k o (Dl so)=true:=by
   have hop':=hop
   simp only[oV,K1] at hop'
   have:=hop'.1.1.2
   cases so<;>first|exact this|simp[ue] at hX
  have operand:∀ t,.t t∈Dl so->¬ bD (sos1.map bh) i (fun x=>listed.getD x false) t/\∀ b:Nat,(sos1.map bh)[b]?=some (some t)->b<k\/i<=b:=fun t ht=>by
   have hlate:∀ p:Nat,fX sos1 p=true->i<=p:=fun p hp=>by
    rcases Lx p i with h|h
    ·rw[(hlow p h).2] at hp;cases hp
    ·exact h
   refine⟨fun⟨b,hb0,hb1,hb2⟩=> ?_,fun b hb=> ?_⟩
   ·rcases nK hxs ht hb1 with⟨_,e,he,hbd,rfl⟩|⟨p,h1,h2,h3,h4⟩|⟨k1,_⟩
    ·simp only[hedge e he hbd] at hb2;cases hb2
    ·have:=hlate p h3;omega
    ·cases k1
   ·rcases nK hxs ht hb with⟨h,_⟩|⟨p,h1,h2,h3,h4⟩|⟨k1,_⟩
    ·exact .inl h
    ·exact .inr (by have:=hlate p h3;omega)
    ·cases k1
  obtain⟨q1,q2⟩:=rY hS1 (a:=k) i oM oM (fun x hx hx'=>(hlow x hx').2)
  obtain⟨q3,q4⟩:=rY hS1 (a:=k+1) i oM oM (fun x hx hx'=>(hlow x hx').2)
  have hv:(S1 i).s d=v:=by
   rw[q4 d fun x hx hx' h=>by have:=huniq x h;omega,he]
   simp[al]
  have hstate:ak (er (bD (sos1.map bh) i (fun x=>listed.getD x false)) (S1 i).s) d ((S1 i).s d)=er (bD (sos1.map bh) i (fun x=>(listed.setIfInBounds k true).getD x false)) (S1 i).s:=by
   funext t
   by_cases ht:t=d
   ·subst ht
    rw[al,wb]
    rintro⟨x,_,hx1,hx2⟩
    have:=huniq x hx1
    subst this
    simp[hL'] at hx2
   ·rw[aP _ _ _ _ ht]
    by_cases hU:bD (sos1.map bh) i (fun x=>listed.getD x false) t
    ·rw[Fm hU,Fm]
     obtain⟨x,hx0,hx1,hx2⟩:=hU
     refine⟨x,hx0,hx1, ?_⟩
     simp only[hL',hx2,Mh,MP,ne_eq]
     intro hxk
     subst hxk
     rw[hdk] at hx1;simp at hx1;exact ht hx1.symm
    ·rw[wb hU,wb]
     rintro⟨x,hx0,hx1,hx2⟩
     exact hU ⟨x,hx0,hx1,by simp only[hL',L7] at hx2;exact hx2.1⟩
  have hmU:iI P c.N ops o so=true:=by
   have:=hmo k o so (by simpa using hk1) hso
   have hgn:=hg k o ho
   cases so<;>first
    |exact this
    |(simp only[iI,hgn] at this⊢;first|exact this|(simp at this))
  have hy':YS P (S1 i).h so (er (bD (sos1.map bh) i (fun x=>listed.getD x false)) (S1 i).s) ((S1 i).s d):=by
   rw[hv,q1]
   refine rM (s:=(S1 k).s) (fun x hx=> ?_) hy
   cases x with
   |t n=>
    obtain⟨o1,o2⟩:=operand n hx
    show(S1 k).s n=er _ (S1 i).s n
    rw[wb o1,q2 n fun x hx hx' h=>by have:=o2 x h;omega]
   |c v=>rfl
   |f i=>rfl
  have hli:(tZ ops.size (listed.setIfInBounds k true)).length=fuel:=by
   have:=zb oM hls h0
   omega
  unfold wpOp
  simp only[ho]
  refine rS hr hmU (x9 hd hy') fun σ' κ' φ' a' w' hr' hk'=> ?_
  subst hk'
  refine ih (listed.setIfInBounds k true) κ' φ' a' w' (by simp[hls]) hli hcl' ?_ ?_
  ·intro x hx;rw[hL',hun x hx];simp;omega
  ·rw[<-hstate];exact hr'
theorem zA {P:Program} {c:Cx} (hmix:P.follows .mixedOrders=true) {id i:Nat} {π:List Nat} {ops:Array Oper} {pre:List SO} {x1 x2:SO} {post:List SO} {K:St->Prop} {Q:Exit->Act->World->Prop} {σ:St} {κ:Nat->Value} {φ:Nat->List Nat} {a:Act} {w:World} (hr:b_ c σ κ φ a w) (hpi:pre.length=i)
  (hQ:∀ σ' κ' φ' a' w',b_ c σ' κ' φ' a' w'->K σ'->Q .normal a' w') (hpl:wn i ops π (pre++x1::x2::post) (pre++x2::x1::post)=true)
  (hm1:aX P c.N (dI ops (i+1) i) (dI ops (i+1) i).toList (pre++x1::x2::post)=true) (ho1:DF P c.N (dI ops (i+1) i) (pre++x1::x2::post) ((pre++x1::x2::post).map bh) 0 (dI ops (i+1) i).toList (pre++x1::x2::post)=true)
  (hp2:iJ π (dI ops i (i+1))=true) (hm2:aX P c.N (cn π (dI ops i (i+1))) (cn π (dI ops i (i+1))).toList (pre++x2::x1::post)=true) (ho2:DF P c.N (cn π (dI ops i (i+1))) (pre++x2::x1::post) ((pre++x2::x1::post).map bh) 0 (cn π (dI ops i (i+1))).toList (pre++x2::x1::post)=true)
  (h:∃ S:Nat->St,S 0=σ/\(∀ (j:Nat) (so:SO),pre[j]?=some so->DC P so (S j) (S (j+1)))/\aA P K (x1::x2::post) (S i)/\aA P K (x2::x1::post) (S i)):(Code.region id ops true).wp P Q a w:=by
 obtain⟨S,h0,hS,hA,hB⟩:=h
 have glue:∀ (rest:List SO),(∀ so∈rest,Ig so=true)->aA P K rest (S i)->∃ S':Nat->St,(∀ k,k<=i->S' k=S k)/\(∀ (j:Nat) (so:SO),(pre++rest)[j]?=some so->DC P so (S' j) (S' (j+1)))/\K (S' (pre++rest).length):=fun rest hok hr=>by
  obtain⟨R,r0,r1,r2⟩:=u_ rest (S i) hok hr
  refine⟨fun k=>if k<=i then S k else R (k - i),fun k hk=>by simp[hk],fun j so hj=> ?_, ?_⟩
  ·rcases Lx j i with hlt|hge
   ·rw[LH oM] at hj
    have h1:j<=i:=by omega
    have h2:j+1<=i:=by omega
    simp only[h1,h2,LX]
    exact hS j so hj
   ·rw[Lv oM] at hj
    have h2:¬ j+1<=i:=by omega
    have e:j+1 - i=(j - pre.length)+1:=by omega
    have:=r1 (j - pre.length) so hj
    simp only[h2,LI]
    by_cases hji:j=i
    ·have e2:j - pre.length=0:=by omega
     rw[e2,r0] at this
     have h3:j<=i:=by omega
     simp only[h3,LX]
     rw[e,e2,hji];exact this
    ·have h3:¬ j<=i:=by omega
     simp only[h3,LI]
     rw[e]
     have e4:j - i=j - pre.length:=by omega
     rw[e4];exact this
  ·have h5:(pre++rest).length - i=rest.length:=by rw[K4];omega
   by_cases hz:rest.length=0
   ·have:rest=[]:=Ld.1 hz
    subst this
    have h6:(pre++([]:List SO)).length<=i:=by simp;omega
    simp only[h6,LX]
    have e7:(pre++([]:List SO)).length=i:=by simp;omega
    rw[e7]
    simpa[aA] using hr
   ·have h6:¬ (pre++rest).length<=i:=by rw[K4];omega
    simp only[h6,LI,h5];exact r2
 have hok1:∀ so∈(x1::x2::post),Ig so=true:=fun so hso=>by
  obtain⟨j,hj,hj2⟩:=M5 hso
  obtain⟨hml,_⟩:=eB hm1
  have hl:(pre++x1::x2::post)[pre.length+j]?=some so:=by rw[Lv oM];simp[K6 hj,hj2]
  have hlt:pre.length+j<(dI ops (i+1) i).size:=by have:=(K5.1 hl).1;simp at hml this;simp;omega
  have:=nc ho1 (pre.length+j) (dI ops (i+1) i)[pre.length+j] so (by simp[hlt]) hl
  simp only[oV,K1] at this
  exact this.1.1.1.1
 have hok2:∀ so∈(x2::x1::post),Ig so=true:=fun so hso=>hok1 so (by simp at hso⊢;rcases hso with h|h|h<;>simp[h])
 obtain⟨S1,a1,a2,a3⟩:=glue _ hok1 hA
 obtain⟨S2,b1,b2,b3⟩:=glue _ hok2 hB
 have hpl':=hpl
 simp only[wn,K1,K_,Lj,LM,La,L0,LV] at hpl'
 obtain⟨⟨⟨⟨⟨⟨⟨_,hsz⟩,hlow⟩,_⟩,_⟩,_⟩,_⟩,_⟩:=hpl'
 refine wp_region_any hmix ?_
 have hrep:∀ k,(Array.replicate ops.size false).getD k false=false:=fun k=>by
  by_cases hi:k<ops.size<;>simp[hi]
 have himp:∃ κ' φ',b_ c ⟨er (bD ((pre++x1::x2::post).map bh) i (fun k=>(Array.replicate ops.size false).getD k false)) σ.s,σ.h⟩ κ' φ' a w:=
  na (σ:=σ) (σ':=⟨er (bD ((pre++x1::x2::post).map bh) i (fun k=>(Array.replicate ops.size false).getD k false)) σ.s,σ.h⟩) (fun t=>by
   by_cases hU:bD ((pre++x1::x2::post).map bh) i (fun k=>(Array.replicate ops.size false).getD k false) t
   ·exact .inr (Fm hU)
   ·exact .inl (wb hU)) (fun _=> .inl rfl) _ _ _ _ _ hr
 obtain⟨κ',φ',hr'⟩:=himp
 refine B4 (c:=c) (pre:=pre) hQ hpl (by rw[List.take_left' hpi]) (by rw[List.take_left' hpi]) hpi hm1 ho1 hp2 hm2 ho2 a2 a3 b2 b3 (by rw[a1 i (K9 _),b1 i (K9 _)]) ops.size _ κ' φ' a _ oS ?_ ?_ (fun k _=>hrep k) ?_
 ·have:tZ ops.size (Array.replicate ops.size false)=List.range ops.size:=by
   unfold tZ
   rw[List.filter_eq_self]
   intro k hk
   simp at hk
   simp[hk]
  rw[this];simp
 ·intro x o hx
  rw[hrep] at hx;cases hx
 ·obtain⟨q1,q2⟩:=rY a2 (a:=0) i oM (by rw[K4];omega) (fun k _ hk=>(hlow k hk).2)
  rw[q1,a1 0 oM,h0]
  have:er (bD ((pre++x1::x2::post).map bh) i (fun k=>(Array.replicate ops.size false).getD k false)) (S1 i).s=er (bD ((pre++x1::x2::post).map bh) i (fun k=>(Array.replicate ops.size false).getD k false)) σ.s:=by
   refine Fn fun t ht=> ?_
   rw[q2 t fun k _ hk he=>ht ⟨k,hk,he,hrep k⟩,a1 0 oM,h0]
  rw[this]
  exact hr'.grown ((Below.refl _ _).drew)
end Go.Proofs.YtgmnipfafmphaaaGreatDoor

