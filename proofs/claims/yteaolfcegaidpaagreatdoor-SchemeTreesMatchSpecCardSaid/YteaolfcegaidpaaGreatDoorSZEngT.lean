/-
  My text.
-/
import Derived.Test.YteaolfcegaidpaaGreatDoorSZEngK
namespace Go.Proofs.YteaolfcegaidpaaGreatDoor
set_option linter.unusedSimpArgs false
set_option linter.unusedVariables false
open Go.RowKit
variable {K:St->Prop} {P:Program} {Q:Exit->Act->World->Prop} {S:Nat->St} {U:Nat->Prop} {X:St} {a:Nat} {c:Cx} {d id:Nat} {kp:Bool} {n:Nat} {op:Oh} {ops:Array Oper} {p:Prop} {s:Nat->SV} {so:SO} {sos:List SO} {t:Nat} {v:SV} {w:World} {z:Nat->SV} {κ:Nat->Value} {π:List Nat} {σ:St} {φ:Nat->List Nat}
def Hh:Oh->List SX
 | .boxM x=>[x]
 | .st _ p v=>[p,v]
 | .app _ _ x y=>[x,y]
 | .appS _ x y=>[x,y]
 | .mkmap _=>[]
 | .mset _ m k v=>[m,k,v]
 | .trunc _ x hi=>[x,hi]
 | .slM _ _ xs=>xs
 | .mkS _ _ _ x y=>[x,y]
 | .bldM _ _=>[]
def tg (d:Nat):Oh->Option Nat
 | .st _ _ _=>none
 | .mset _ _ _ _=>none
 |_=>some d
def EF:SO->Bool
 | .x _ _ _=>true
 | .q _ _ _ _=>true
 |_=>false
def c0:SO->Option Nat
 | .x d op _=>tg d op
 | .q d _ _ _=>some d
 |so=>kL so
def SM:SO->List SX
 | .x _ op _=>Hh op
 | .q _ f args _=>f::args
 |so=>Mh so
def R_ (so:SO):Bool:=EF so||(kL so).isSome
open Classical in
noncomputable def pT (z:Nat->SV) (U:Nat->Prop) (s:Nat->SV):Nat->SV:=fun t=>if U t then z t else s t
theorem fA (h:¬ U t):pT z U s t=s t:=by unfold pT;simp[h]
theorem o6 (h:U t):pT z U s t=z t:=by unfold pT;simp[h]
theorem Lc {F:Nat->SV} (h:∀ t,¬ U t->s t=F t):pT z U s=pT z U F:=by
 funext t
 by_cases hu:U t
 ·rw[o6 hu,o6 hu]
 ·rw[fA hu,fA hu,h t hu]
theorem l7 {x:SX} (h:∀ t,x= .t t->¬ U t):ev (pT z U s) x=ev s x:=by
 cases x with
 |t n=>exact fA (h n rfl)
 |c v=>rfl
 |f i=>rfl
theorem jU (hz:∀ i t,fS i .any (z t)=z t):aD (eC id .any (pT z U s)) d v=pT z (fun t=>U t/\t≠d) (aD (eC id .any s) d v):=by
 funext t
 by_cases Y:t=d
 ·subst Y;rw[au,fA oS,au]
 ·rw[bv _ _ _ _ Y]
  by_cases hu:U t
  ·rw[o6 (U:=fun t=>U t/\t≠d) ⟨hu,Y⟩];simp[eC,o6 hu,hz]
  ·rw[fA (U:=fun t=>U t/\t≠d) (fun h=>hu h.1),bv _ _ _ _ Y];simp[eC,fA hu]
theorem MN (hz:∀ i t,fS i .any (z t)=z t) (h:wr σ d op=some (p,X)) (hx:∀ x∈Hh op,∀ t,x= .t t->¬ U t):
  wr ⟨pT z U σ.s,σ.h⟩ d op=some (p,⟨pT z (fun t=>U t/\tg d op≠some t) X.s,X.h⟩):=by
 have a:∀ s:Nat->SV,pT z (fun t=>U t/\(none:Option Nat)≠some t) s=pT z U s:=fun s=>by congr 1;funext t;simp
 have one:∀ s:Nat->SV,pT z (fun t=>U t/\(some d:Option Nat)≠some t) s=pT z (fun t=>U t/\t≠d) s:=fun s=>by
  congr 1;funext t;simp only[ne_eq,SN,eq_comm]
 cases op with
 |boxM x=>
  have h1:=l7 (z:=z) (s:=σ.s) (hx x (by simp[Hh]))
  simp only[wr,tg,h1,one] at h⊢
  split at h
  ·simp only[SN,SS] at h
   obtain⟨rfl,rfl⟩:=h
   simp only[St.swap,jU hz]
  ·cases h
 |st n x y=>
  have h1:=l7 (z:=z) (s:=σ.s) (hx x (by simp[Hh]))
  have h2:=l7 (z:=z) (s:=σ.s) (hx y (by simp[Hh]))
  simp only[wr,tg,h1,h2,a] at h⊢
  split at h
  ·split at h
   ·rename_i E h4
    simp only[SN,SS] at h
    obtain⟨rfl,rfl⟩:=h
    simp only
   ·cases h
  ·split at h
   ·split at h
    ·rename_i h5
     simp only[SN,SS] at h
     obtain⟨rfl,rfl⟩:=h
     simp only
    ·cases h
   ·cases h
  ·cases h
 |app e sz x y=>
  have h1:=l7 (z:=z) (s:=σ.s) (hx x (by simp[Hh]))
  have h2:=l7 (z:=z) (s:=σ.s) (hx y (by simp[Hh]))
  simp only[wr,tg,h1,h2,one] at h⊢
  split at h
  ·split at h
   ·simp only[SN,SS] at h
    obtain⟨rfl,rfl⟩:=h
    simp only[cZ,St.swap,jU hz]
   ·cases h
  ·simp only[SN,SS] at h
   obtain⟨rfl,rfl⟩:=h
   simp only[cZ,St.swap,jU hz]
  ·simp only[SN,SS] at h
   obtain⟨rfl,rfl⟩:=h
   simp only[cZ,St.swap,jU hz]
  ·cases h
 |appS e x y=>
  have h1:=l7 (z:=z) (s:=σ.s) (hx x (by simp[Hh]))
  have h2:=l7 (z:=z) (s:=σ.s) (hx y (by simp[Hh]))
  simp only[wr,tg,h1,h2,one] at h⊢
  split at h
  ·split at h
   ·simp only[SN,SS] at h
    obtain⟨rfl,rfl⟩:=h
    simp only[cZ,St.swap,jU hz]
   ·cases h
  ·simp only[SN,SS] at h
   obtain⟨rfl,rfl⟩:=h
   simp only[cZ,St.swap,jU hz]
  ·cases h
 |bldM T e=>
  simp only[wr,tg,one,SN,SS] at h⊢
  obtain⟨rfl,rfl⟩:=h
  simp only[St.swap,jU hz,and_self]
 |mkmap kk=>
  simp only[wr,tg,one,SN,SS] at h⊢
  obtain⟨rfl,rfl⟩:=h
  simp only[St.swap,jU hz,and_self]
 |mset kk m k v=>
  have h1:=l7 (z:=z) (s:=σ.s) (hx m (by simp[Hh]))
  have h2:=l7 (z:=z) (s:=σ.s) (hx k (by simp[Hh]))
  have E:=l7 (z:=z) (s:=σ.s) (hx v (by simp[Hh]))
  simp only[wr,tg,h1,h2,E,a] at h⊢
  split at h
  ·split at h
   ·simp only[SN,SS] at h
    obtain⟨rfl,rfl⟩:=h
    simp only
   ·cases h
  ·cases h
 |mkS e sz b x y=>
  have h1:ev (pT z U σ.s) x=ev σ.s x:=l7 (hx x (by simp[Hh]))
  have h2:ev (pT z U σ.s) y=ev σ.s y:=l7 (hx y (by simp[Hh]))
  simp only[wr,tg,h1,h2,one] at h⊢
  split at h
  ·simp only[SN,SS] at h
   obtain⟨rfl,rfl⟩:=h
   simp only[cZ,St.swap,jU hz]
  ·cases h
 |slM e sz xs=>
  have h1:xs.map (ev (pT z U σ.s))=xs.map (ev σ.s):=T3 fun x Q=>l7 (hx x (by simpa only[Hh] using Q))
  simp only[wr,tg,h1,one] at h⊢
  split at h
  ·simp only[SN,SS] at h
   obtain⟨rfl,rfl⟩:=h
   simp only[cZ,St.swap,jU hz]
  ·cases h
 |trunc sz x hi=>
  have h1:=l7 (z:=z) (s:=σ.s) (hx x (by simp[Hh]))
  have h2:=l7 (z:=z) (s:=σ.s) (hx hi (by simp[Hh]))
  simp only[wr,tg,h1,h2,one] at h⊢
  split at h
  ·split at h
   ·simp only[SN,SS] at h
    obtain⟨rfl,rfl⟩:=h
    simp only[cZ,St.swap,jU hz]
   ·cases h
  ·cases h
theorem H0 (hz:∀ i t,fS i .any (z t)=z t) {L:List (Nat×Ch)} {C:SV} (h:takes σ L (some d) C=some X):takes ⟨pT z U σ.s,σ.h⟩ L (some d) C=some ⟨pT z (fun t=>U t/\(some d:Option Nat)≠some t) X.s,X.h⟩:=by
 have one:∀ s:Nat->SV,pT z (fun t=>U t/\(some d:Option Nat)≠some t) s=pT z (fun t=>U t/\t≠d) s:=fun s=>by
  congr 1;funext t;simp only[ne_eq,SN,eq_comm]
 have a:∀ (s:Nat->SV) (v:SV),aD (pT z U s) d v=pT z (fun t=>U t/\t≠d) (aD s d v):=fun s v=>by
  funext t
  by_cases Y:t=d
  ·subst Y;rw[au,fA oS,au]
  ·rw[bv _ _ _ _ Y]
   by_cases hu:U t
   ·rw[o6 (U:=fun t=>U t/\t≠d) ⟨hu,Y⟩,o6 hu]
   ·rw[fA (U:=fun t=>U t/\t≠d) (fun h=>hu h.1),bv _ _ _ _ Y,fA hu]
 unfold takes at h⊢
 simp only at h⊢
 split at h
 ·rename_i h0
  simp only[SN] at h;subst h
  rw[Ub h0,one,a]
 ·rename_i h0
  rw[Ul h0]
  split at h
  ·rename_i h1
   rw[Ub h1]
   split at h
   ·rename_i m v ho
    split at h
    ·rename_i ch mk s3
     simp only[SN] at h;subst h
     simp only[ho,s3,one,jU hz]
    ·cases h
   ·cases h
  ·cases h
section
variable {σ:St}
theorem xa (hs:∀ i,X.s i=σ.s i\/X.s i= .d .any) (hh:∀ i,X.h i=σ.h i\/X.h i= .dead):cS σ X:=fun c κ φ a w hr=>by
 classical
 refine⟨κ,fun i=>if X.h i=σ.h i then φ i else[], ?_⟩
 have f:∀ i b,b∈(if X.h i=σ.h i then φ i else[])->b∈φ i:=fun i b hb=>by
  split at hb
  ·exact hb
  ·simp at hb
 have N:lA w (own c φ) w (own c fun i=>if X.h i=σ.h i then φ i else[]):=lA.shrink fun b hb=>by
  rcases hb with hb|⟨i,hb⟩
  ·exact .inl hb
  ·exact .inr ⟨i,f i b hb⟩
 have v6:∀ i v,ah w (own c φ) κ (σ.s i) v->ah w (own c fun i=>if X.h i=σ.h i then φ i else[]) κ (X.s i) v:=fun i v hv=>by
  rcases hs i with h|h
  ·rw[h];exact hv.ext N
  ·rw[h];simp only[ah];unfold ba;trivial
 refine⟨hr.chg,hr.size,hr.m0,hr.ntmps,hr.defers,hr.kok,fun i hi=>v6 i _ (hr.slots i hi),fun i v hv=>v6 _ v (hr.ghost i v hv),fun i=> ?_,fun i b hb=>hr.mine i b (f i b hb),fun i=> ?_,fun i j b V hi hj=>hr.sep i j b V (f i b hi) (f j b hj)⟩
 ·by_cases h:X.h i=σ.h i
  ·simp only[h,T6];exact(hr.chunks i).ext N (fun _ _=>rfl)
  ·rcases hh i with h'|h'
   ·exact absurd h' h
   ·simp only[h,Tv];rw[h'];rfl
 ·split
  ·exact hr.nod i
  ·simp
end
def OC (P:Program) (so:SO) (σ X:St):Prop:=
 match so with
 | .x d op late=>∃ p,wr σ d op=some (p,X)/\p/\AL X late
 | .q d f args late=>∃ D ins outs C L,ev σ.s f= .d (.fn D [])/\bB P D ins C outs/\C.closed=true/\HandL σ.h (args.map (ev σ.s)) ins outs L/\takes σ L (some d) C=some X/\AL X late
 |so=>∃ d v,kL so=some d/\YS P σ.h so σ.s v/\X=⟨aD σ.s d v,σ.h⟩
theorem DO (hx:EF so=false) (h:OC P so σ X):∃ d v,kL so=some d/\YS P σ.h so σ.s v/\X=⟨aD σ.s d v,σ.h⟩:=by
 cases so<;>first|exact h|simp[EF] at hx
theorem Qp (N:R_ so=true) (h:AO P so σ K):∃ X,OC P so σ X/\K X:=by
 by_cases hx:EF so=true
 ·cases so<;>simp[EF] at hx
  ·rename_i d op late
   simp only[AO] at h
   split at h
   ·rename_i p X G;exact⟨X,⟨p,G,h.1,h.2.1⟩,h.2.2⟩
   ·exact h.elim
  ·rename_i d f args late
   obtain⟨D,ins,outs,C,L,X,h1,h2,E,h4,h5,h6,h7⟩:=h
   exact⟨X,⟨D,ins,outs,C,L,h1,h2,E,h4,h5,h6⟩,h7⟩
 ·simp only[Uk] at hx
  simp only[R_,hx,Tx,TX] at N
  obtain⟨d,hd⟩:=N
  obtain⟨v,hv,hk⟩:=HB hd h
  refine⟨_, ?_,hk⟩
  cases so<;>first|exact⟨d,v,hd,hv,rfl⟩|simp[EF] at hx
theorem J2 {P:Program} {K:St->Prop}:∀ (sos:List SO) (σ:St),(∀ so∈sos,R_ so=true)->a6 P K sos σ->∃ S:Nat->St,S 0=σ/\(∀ (j:Nat) (so:SO),sos[j]?=some so->OC P so (S j) (S (j+1)))/\K (S sos.length)
 |[],σ,_,h=>⟨fun _=>σ,rfl,by simp,h⟩
 |so::sos,σ,N,h=>by
  simp only[a6] at h
  obtain⟨X,h1,h2⟩:=Qp (N so oS) h
  obtain⟨S,E,h4,h5⟩:=J2 sos X (fun s hs=>N s (by simp[hs])) h2
  refine⟨fun j=>match j with|0=>σ|j+1=>S j,rfl,fun j s hj=> ?_,by simpa using h5⟩
  cases j with
  |zero=>simp at hj;subst hj;simpa[E] using h1
  |succ j=>exact h4 j s (by simpa using hj)
mutual
theorem H1 (id:Nat):∀ v:SV,(fS id .any v).firm=true->fS id .any v=v
 | .d v,_=>rfl
 | .nils,_=>rfl
 | .lit sz n cs,h=>by
  simp only[fS,SV.firm] at h⊢
  rw[Bc id cs h]
 | .agg cs,h=>by
  simp only[fS,SV.firm] at h⊢
  rw[Bc id cs h]
 | .tup cs,h=>by simp[fS,SV.firm] at h
 | .ref i off,h=>by
  by_cases hi:i=id
  ·simp[fS,hi,SV.firm] at h
  ·simp[fS,hi]
 | .vec i,h=>by
  by_cases hi:i=id
  ·simp[fS,hi,SV.firm] at h
  ·simp[fS,hi]
 | .vref i a b off,h=>by
  by_cases hi:i=id
  ·simp[fS,hi,SV.firm] at h
  ·simp[fS,hi]
 | .mp i,h=>by
  by_cases hi:i=id
  ·simp[fS,hi,SV.firm] at h
  ·simp[fS,hi]
 | .clo f l,h=>by
  simp only[fS] at h⊢
  cases hi:Dh id l with
  |true=>rw[hi] at h;simp[L8,SV.firm] at h
  |false=>rfl
 | .own m v,_=>rfl
theorem Bc (id:Nat):∀ l:List SV,SV.firms (ee id .any l)=true->ee id .any l=l
 |[],_=>rfl
 |c::cs,h=>by
  simp only[ee,SV.firms,SR] at h⊢
  rw[H1 id c h.1,Bc id cs h.2]
end
mutual
theorem Bd (id:Nat):∀ v:SV,v.firm=true->fS id .any v=v
 | .d v,_=>rfl
 | .nils,_=>rfl
 | .lit sz n cs,h=>by
  simp only[fS,SV.firm] at h⊢
  rw[zb id cs h]
 | .agg cs,h=>by
  simp only[fS,SV.firm] at h⊢
  rw[zb id cs h]
 | .tup cs,h=>by simp[SV.firm] at h
 | .ref i off,h=>by simp[SV.firm] at h
 | .vec i,h=>by simp[SV.firm] at h
 | .vref i a b off,h=>by simp[SV.firm] at h
 | .mp i,h=>by simp[SV.firm] at h
 | .clo f l,h=>by simp[SV.firm] at h
 | .own m v,h=>by simp[SV.firm] at h
theorem zb (id:Nat):∀ l:List SV,SV.firms l=true->ee id .any l=l
 |[],_=>rfl
 |c::cs,h=>by
  simp only[SV.firms,SR] at h
  simp only[ee]
  rw[Bd id c h.1,zb id cs h.2]
end
def se (s:Nat->SV):Nat->SV:=fun t=>if(s t).firm=true then s t else .d .any
theorem Ld (s:Nat->SV) (i t:Nat):fS i .any (se s t)=se s t:=by
 unfold se
 split
 ·rename_i h;exact Bd i _ h
 ·rfl
theorem H2 (s:Nat->SV) (t:Nat):se s t= .d .any\/(se s t=s t/\(s t).firm=true):=by
 unfold se
 split
 ·rename_i h;exact .inr ⟨rfl,h⟩
 ·exact .inl rfl
theorem H3 (s:Nat->SV) (U:Nat->Prop) (t:Nat):pT (se s) U s t=s t\/pT (se s) U s t= .d .any:=by
 by_cases h:U t
 ·rw[o6 h]
  rcases H2 s t with h|h
  ·exact .inr h
  ·exact .inl h.1
 ·exact .inl (fA h)
def xb:wh->Bool
 | .sslc _ _ _=>true
 |_=>false
def MO:SO->Bool
 | .r _ op=>xb op
 |_=>false
def Sm:SO->Bool
 | .r _ _=>true
 |_=>false
def FG (n:Nat):List (Nat×Nat×wh)->Bool
 |[]=>false
 |(_,_,.cl _ [n'])::l=>n'==n||FG n l
 |_::l=>FG n l
def DP (op:wh) (l:List (Nat×Nat×wh)):Bool:=
 match op with
 | .mv (.t n)=>FG n l
 |_=>false
theorem H4 {a:Option Int} (h:Hf s (some (.t n))=some a):(s n).firm=true:=by
 simp only[Hf,ev] at h
 split at h
 ·rename_i h1;rw[h1];rfl
 ·cases h
theorem J3 {h:Nat->Ch} {op:wh} (hr:rd h s op=some (p,v)) (hf:xb op=true) (hn: .t n∈tz op):(s n).firm=true:=by
 cases op<;>simp only[xb,Tj] at hf
 rename_i x lo hi
 simp only[rd] at hr
 split at hr
 ·rename_i l a b h1 h2 E
  simp only[tz,S9,Ta,Option.mem_toList,Option.mem_def] at hn
  rcases hn with rfl|rfl|rfl
  ·have:s n= .d (.str l):=h1
   rw[this];rfl
  ·exact H4 h2
  ·exact H4 E
 ·cases hr
mutual
theorem FH:∀ v:SV,v.firm=true->∃ d,v.toDV=some d
 | .d v,_=>⟨v,rfl⟩
 | .nils,_=>⟨_,rfl⟩
 | .lit sz n cs,h=>by
  obtain⟨O,hd⟩:=xc cs (by simpa only[SV.firm] using h)
  exact⟨_,by simp only[SV.toDV,hd];rfl⟩
 | .agg cs,h=>by
  obtain⟨O,hd⟩:=xc cs (by simpa only[SV.firm] using h)
  exact⟨_,by simp only[SV.toDV,hd];rfl⟩
 | .tup cs,h=>by simp[SV.firm] at h
 | .ref i off,h=>by simp[SV.firm] at h
 | .vec i,h=>by simp[SV.firm] at h
 | .vref i a b off,h=>by simp[SV.firm] at h
 | .mp i,h=>by simp[SV.firm] at h
 | .clo f l,h=>by simp[SV.firm] at h
 | .own m v,h=>by simp[SV.firm] at h
theorem xc:∀ l:List SV,SV.firms l=true->∃ O,SV.toDVs l=some O
 |[],_=>⟨[],rfl⟩
 |c::cs,h=>by
  simp only[SV.firms,SR] at h
  obtain⟨d,hd⟩:=FH c h.1
  obtain⟨O,r8⟩:=xc cs h.2
  exact⟨d::O,by simp only[SV.toDVs,hd,r8]⟩
end
theorem Cb {s:Nat->SV}:∀ {l:List Nat},nQ s l=true->∀ n∈l,(s n).firm=true
 |[],_,n,hn=>by cases hn
 |m::l,h,n,hn=>by
  simp only[nQ,SR] at h
  rcases S9.1 hn with rfl|hn
  ·exact h.1
  ·exact Cb h.2 n hn
theorem MP (h:wr σ d op=some (p,X)) (hn:tg d op≠some n):X.s n=σ.s n\/∃ id,X.s n=fS id .any (σ.s n):=by
 have a:∀ (id e sz:Nat) (rows:List (List SV)),d≠n->(cZ σ d id e sz rows).s n=fS id .any (σ.s n):=fun id e sz rows hd=>by
  simp only[cZ,aD,eC];rw[Ul (Ne.symm hd)]
 cases op with
 |boxM x=>
  have hd:d≠n:=fun e=>hn (by simp[tg,e])
  simp only[wr] at h
  split at h
  ·simp only[SN,SS] at h
   obtain⟨rfl,rfl⟩:=h
   exact .inr ⟨d,by simp only[aD,eC];rw[Ul (Ne.symm hd)]⟩
  ·cases h
 |st k x y=>
  simp only[wr] at h
  split at h
  ·split at h
   ·simp only[SN,SS] at h
    obtain⟨rfl,rfl⟩:=h
    exact .inl rfl
   ·cases h
  ·split at h
   ·split at h
    ·simp only[SN,SS] at h
     obtain⟨rfl,rfl⟩:=h
     exact .inl rfl
    ·cases h
   ·cases h
  ·cases h
 |app e sz x y=>
  have hd:d≠n:=fun e=>hn (by simp[tg,e])
  simp only[wr] at h
  split at h
  ·split at h
   ·simp only[SN,SS] at h
    obtain⟨rfl,rfl⟩:=h
    exact .inr ⟨_,a _ _ _ _ hd⟩
   ·cases h
  ·simp only[SN,SS] at h
   obtain⟨rfl,rfl⟩:=h
   exact .inr ⟨_,a _ _ _ _ hd⟩
  ·simp only[SN,SS] at h
   obtain⟨rfl,rfl⟩:=h
   exact .inr ⟨_,a _ _ _ _ hd⟩
  ·cases h
 |appS e x y=>
  have hd:d≠n:=fun e=>hn (by simp[tg,e])
  simp only[wr] at h
  split at h
  ·split at h
   ·simp only[SN,SS] at h
    obtain⟨rfl,rfl⟩:=h
    exact .inr ⟨_,a _ _ _ _ hd⟩
   ·cases h
  ·simp only[SN,SS] at h
   obtain⟨rfl,rfl⟩:=h
   exact .inr ⟨_,a _ _ _ _ hd⟩
  ·cases h
 |bldM T W=>
  have hd:d≠n:=fun e=>hn (by simp[tg,e])
  simp only[wr,SN,SS] at h
  obtain⟨rfl,rfl⟩:=h
  exact .inr ⟨d,by simp only[aD,eC];rw[Ul (Ne.symm hd)]⟩
 |mkmap kk=>
  have hd:d≠n:=fun e=>hn (by simp[tg,e])
  simp only[wr,SN,SS] at h
  obtain⟨rfl,rfl⟩:=h
  exact .inr ⟨d,by simp only[aD,eC];rw[Ul (Ne.symm hd)]⟩
 |mset kk m k v=>
  simp only[wr] at h
  split at h
  ·split at h
   ·simp only[SN,SS] at h
    obtain⟨rfl,rfl⟩:=h
    exact .inl rfl
   ·cases h
  ·cases h
 |mkS e sz z x y=>
  have hd:d≠n:=fun e=>hn (by simp[tg,e])
  simp only[wr] at h
  split at h
  ·simp only[SN,SS] at h
   obtain⟨rfl,rfl⟩:=h
   exact .inr ⟨_,a _ _ _ _ hd⟩
  ·cases h
 |slM e sz xs=>
  have hd:d≠n:=fun e=>hn (by simp[tg,e])
  simp only[wr] at h
  split at h
  ·simp only[SN,SS] at h
   obtain⟨rfl,rfl⟩:=h
   exact .inr ⟨_,a _ _ _ _ hd⟩
  ·cases h
 |trunc sz x hi=>
  have hd:d≠n:=fun e=>hn (by simp[tg,e])
  simp only[wr] at h
  split at h
  ·split at h
   ·simp only[SN,SS] at h
    obtain⟨rfl,rfl⟩:=h
    exact .inr ⟨_,a _ _ _ _ hd⟩
   ·cases h
  ·cases h
theorem Be (h:OC P so σ X) (hn:c0 so≠some n):X.s n=σ.s n\/∃ id,X.s n=fS id .any (σ.s n):=by
 by_cases hx:EF so=true
 ·cases so<;>simp[EF] at hx
  ·obtain⟨p,G,_,_⟩:=h
   exact MP G hn
  ·rename_i d f args late
   obtain⟨D,ins,outs,C,L,_,_,_,_,Y,_⟩:=h
   have hd:d≠n:=fun e=>hn (by simp[c0,e])
   simp only[takes] at Y
   split at Y
   ·simp only[SN] at Y;subst Y
    exact .inl (by simp only[aD];rw[Ul (Ne.symm hd)])
   ·split at Y
    ·split at Y
     ·split at Y
      ·simp only[SN] at Y;subst Y
       exact .inr ⟨d,by simp only[aD,eC];rw[Ul (Ne.symm hd)]⟩
      ·cases Y
     ·cases Y
    ·cases Y
 ·simp only[Uk] at hx
  obtain⟨d,v,hd,_,rfl⟩:=DO hx h
  have w9:c0 so=some d:=by cases so<;>first|exact hd|simp[EF] at hx
  have:n≠d:=fun e=>hn (by rw[w9,e])
  exact .inl (by simp only[aD];rw[Ul this])
theorem DQ (hS:∀ (j:Nat) (so:SO),sos[j]?=some so->OC P so (S j) (S (j+1))):∀ b,a<=b->b<=sos.length->(∀ i,a<=i->i<b->(sos.map c0)[i]?≠some (some n))->((S b).s n).firm=true->(S a).s n=(S b).s n:=by
 intro b q hb hn hf
 induction b with
 |zero=>
      obtain rfl:a=0:=by omega
      rfl
 |succ b ih=>
  by_cases m:a=b+1
  ·rw[m]
  obtain⟨so,g⟩:∃ so,sos[b]?=some so:=⟨_,S3 oM⟩
  have hd:c0 so≠some n:=fun e=>hn b oM oM (by simp[g,e])
  have h1:(S (b+1)).s n=(S b).s n:=by
   rcases Be (hS b so g) hd with h|⟨id,h⟩
   ·exact h
   ·rw[h] at hf⊢;exact H1 id _ hf
  rw[h1] at hf⊢
  exact ih oM oM (fun i hi h5=>hn i hi oM) hf
theorem OD (hS:∀ (j:Nat) (so:SO),sos[j]?=some so->OC P so (S j) (S (j+1))) {v:DV} (hv:(S a).s n= .d v):∀ b,a<=b->b<=sos.length->(∀ i,a<=i->i<b->(sos.map c0)[i]?≠some (some n))->(S b).s n= .d v:=by
 intro b q hb hn
 induction b with
 |zero=>
      obtain rfl:a=0:=by omega
      exact hv
 |succ b ih=>
  by_cases m:a=b+1
  ·rw[<-m];exact hv
  obtain⟨so,g⟩:∃ so,sos[b]?=some so:=⟨_,S3 oM⟩
  have hd:c0 so≠some n:=fun e=>hn b oM oM (by simp[g,e])
  have h0:=ih oM oM (fun i hi h5=>hn i hi oM)
  rcases Be (hS b so g) hd with h|⟨id,h⟩
  ·rw[h,h0]
  ·rw[h,h0];rfl
theorem MQ (hS:∀ (j:Nat) (so:SO),sos[j]?=some so->OC P so (S j) (S (j+1))) (hv:((S a).s n).firm=true):∀ b,a<=b->b<=sos.length->(∀ i,a<=i->i<b->(sos.map c0)[i]?≠some (some n))->(S b).s n=(S a).s n:=by
 intro b q hb hn
 induction b with
 |zero=>
      obtain rfl:a=0:=by omega
      rfl
 |succ b ih=>
  by_cases m:a=b+1
  ·rw[<-m]
  obtain⟨so,g⟩:∃ so,sos[b]?=some so:=⟨_,S3 oM⟩
  have hd:c0 so≠some n:=fun e=>hn b oM oM (by simp[g,e])
  have h0:=ih oM oM (fun i hi h5=>hn i hi oM)
  rcases Be (hS b so g) hd with h|⟨id,h⟩
  ·rw[h,h0]
  ·rw[h,h0];exact Bd id _ hv
def DR (sos:List SO) (a:Nat):List (Nat×Nat×wh)->Bool
 |[]=>false
 |(a',d,.cl t ts)::l=>(a'==a&&t==d&&(match sos[a]? with
  |some (.c d' (.f _) args)=>d'==d&&args.all (fun x=>match x with| .t n=>ts.contains n| .c v=>v.toDV.isSome| .f _=>false)
  |_=>false))||DR sos a l
 |_::l=>DR sos a l
def fX (sos:List SO) (i:Nat):Bool:=match sos[i]? with|some so=>EF so|none=>false
def wk (kp fo fw:Bool) (all:Array Oper) (sos:List SO) (f:List (Option Nat)) (j:Nat) (o:Oper) (xs:List SX):Bool:=
 (JK xs).all fun t=>(List.range f.length).all fun b=>f[b]? !=some (some t)||(decide (b<j)&&o.after.any (fun e=>Region.binds .any e&&e.on==b))||
  ((List.range b).any fun p=>decide (j<=p)&&fX sos p&&(p==j||back all j p [p]))||
  (kp&&fo&&decide (j<b)&&back all j b [b]&&((List.range sos.length).all fun p=> !fX sos p||decide (p<b)||back all j p [p])&&(fw||(List.range b).any fun p=>decide (j<=p)&&fX sos p))
def DS (kp:Bool) (e:List (Nat×Nat×wh)) (P:Program) (N:Nat) (all:Array Oper) (sos:List SO) (f:List (Option Nat)) (a:Nat):List (Nat×Nat×wh)->Bool
 |[]=>false
 |(a',d,op)::l=>(a'==a&&f[a]?==some (some d)&&(match all[a]? with
  |some o=>(match op with
   | .gd t want b=>l6 P N all o (.g t want (some d) (.r d b))&&wk kp (xb b||DP b e) true all sos f a o (.t t::tz b)
   |op=>o.guard==none&&eD P N o (.r d op)&&wk kp (xb op||DP op e) true all sos f a o (tz op))
  |none=>false))||DS kp e P N all sos f a l
def Bf:SO->List (Nat×Nat×wh)
 | .x _ _ l=>l
 | .q _ _ _ l=>l
 |_=>[]
def DT (kp:Bool) (P:Program) (N:Nat) (all:Array Oper) (sos:List SO) (f:List (Option Nat)) (j:Nat) (o:Oper) (so:SO):Bool:=
 R_ so&&o.after.all (fun e=> !Region.binds .any e||decide (e.on<j))&&wk kp (Sm so) (MO so) all sos f j o (SM so)&&
 (List.range f.length).all (fun b=>b==j||f[b]? !=f[j]?||f[j]?==some none)&&
 (List.range j).all (fun p=>match sos[p]? with
  |some sp=>if EF sp then back all p j [j] else(!EF so||back all p j [j]||DS kp (Bf so) P N all sos f p (Bf so)||DR sos p (Bf so))
  |none=>false)
def zc (kp:Bool) (P:Program) (N:Nat) (all:Array Oper) (sos:List SO) (f:List (Option Nat)):Nat->List Oper->List SO->Bool
 |_,[],[]=>true
 |j,o::ops,so::l=>DT kp P N all sos f j o so&&zc kp P N all sos f (j+1) ops l
 |_,_,_=>false
abbrev Rt:=zc false
theorem DU {kp:Bool} {P:Program} {N:Nat} {all:Array Oper} {sos:List SO} {f:List (Option Nat)}:∀ {ops:List Oper} {l:List SO} {k:Nat},zc kp P N all sos f k ops l=true->∀ (j:Nat) (o:Oper) (so:SO),ops[j]?=some o->l[j]?=some so->DT kp P N all sos f (k+j) o so=true
 |[],[],k,h,j,o,so,ho,hs=>by simp at ho
 |o'::ops,I::l,k,h,j,o,so,ho,hs=>by
  simp only[zc,SR] at h
  cases j with
  |zero=>simp at ho hs;subst ho hs;exact h.1
  |succ j=>
   have:=DU h.2 j o so (by simpa using ho) (by simpa using hs)
   rw[show k+(j+1)=k+1+j by omega];exact this
 |[],_::_,k,h,_,_,_,_,_=>by simp[zc] at h
 |_::_,[],k,h,_,_,_,_,_=>by simp[zc] at h
theorem DW {fo fw:Bool} {all:Array Oper} {f:List (Option Nat)} {j:Nat} {o:Oper} {xs:List SX} (h:wk kp fo fw all sos f j o xs=true) (Y: .t t∈xs) {b:Nat} (hb:f[b]?=some (some t)):
  (b<j/\∃ e∈o.after,Region.binds .any e=true/\e.on=b)\/(∃ p,p<b/\j<=p/\fX sos p=true/\(p=j\/back all j p [p]=true))\/
   (kp=true/\fo=true/\j<b/\back all j b [b]=true/\(fw=true\/∃ p,j<=p/\p<b/\fX sos p=true)/\∀ p,p<sos.length->fX sos p=true->p<b\/back all j p [p]=true):=by
 have h1:=Tp.1 h t (List.mem_filterMap.2 ⟨.t t,Y,rfl⟩)
 have h2:=Tp.1 h1 b (T7.2 (SY.1 hb).1)
 simp only[hb,bne_self_eq_false,Tx,Tn,SR,SU] at h2
 rcases h2 with(h2|h2)|h2
 ·obtain⟨e,J,h6⟩:=Array.any_eq_true'.1 h2.2
  simp only[SR,S1] at h6
  exact .inl ⟨h2.1,e,J,h6.1,h6.2⟩
 ·obtain⟨p,hp,a⟩:=Uu.1 h2
  simp only[SR,Tn,SU,S1] at a
  exact .inr (.inl ⟨p,T7.1 hp,a.1.1,a.1.2,a.2⟩)
 ·obtain⟨⟨⟨⟨⟨k1,k2⟩,k3⟩,k4⟩,k5⟩,k6⟩:=h2
  refine .inr (.inr ⟨k1,k2,k3,k4, ?_,fun p hp hx=> ?_⟩)
  ·rcases k6 with k6|k6
   ·exact .inl k6
   ·obtain⟨p,hp,a⟩:=Uu.1 k6
    simp only[SR,SU] at a
    exact .inr ⟨p,a.1,T7.1 hp,a.2⟩
  have:=Tp.1 k5 p (T7.2 hp)
  simpa[hx] using this
theorem zd {σ:St} {n:Nat}:∀ {l:List (Nat×Nat×wh)},FG n l=true->AL σ l->(σ.s n).firm=true
 |[],h,_=>by simp[FG] at h
 |(a,d,op)::l,h,hr=>by
  simp only[AL] at hr
  unfold FG at h
  split at h
  ·cases h
  ·rename_i B
   simp only[TA,SS] at B
   obtain⟨⟨rfl,rfl,rfl⟩,rfl⟩:=B
   simp only[Tn,S1] at h
   rcases h with rfl|h
   ·have h0:=hr.1
    simp only[Qb,rd] at h0
    split at h0
    ·rename_i u3
     split at u3
     ·rename_i b;simpa[nQ] using b
     ·cases u3
    ·exact h0.elim
   ·exact zd h hr.2
  ·rename_i B
   simp only[TA] at B
   obtain⟨rfl,rfl⟩:=B
   exact zd h hr.2
theorem Jh {op:wh} {l:List (Nat×Nat×wh)} (h:DP op l=true) (hr:AL σ l) (hn: .t n∈tz op):(σ.s n).firm=true:=by
 unfold DP at h
 split at h
 ·simp only[tz,Td,SX.t.injEq] at hn
  subst hn
  exact zd h hr
 ·cases h
theorem OE {a b:Bool} (h:¬ a=b):a= !b:=by cases a<;>cases b<;>first|rfl|exact absurd rfl h
theorem Cc {kp:Bool} {e:List (Nat×Nat×wh)} {P:Program} {N:Nat} {all:Array Oper} {sos:List SO} {f:List (Option Nat)} {a:Nat} {σ:St}:∀ {l:List (Nat×Nat×wh)},DS kp e P N all sos f a l=true->AL σ l->
  ∃ d op o,f[a]?=some (some d)/\all[a]?=some o/\
   ((o.guard=none/\eD P N o (.r d op)=true/\wk kp (xb op||DP op e) true all sos f a o (tz op)=true/\∃ p,rd σ.h σ.s op=some (p,σ.s d)/\p)\/
    (∃ t want,l6 P N all o (.g t want (some d) (.r d op))=true/\wk kp (xb op||DP op e) true all sos f a o (.t t::tz op)=true/\∃ p,Qb σ.h σ.s (.gd t want op)=some (p,σ.s d)/\p))
 |[],h,_=>by simp[DS] at h
 |(a',d,op)::l,h,hr=>by
  simp only[DS,Tn,SR,S1] at h
  simp only[AL] at hr
  rcases h with⟨⟨rfl,h1⟩,h2⟩|h
  ·split at h2
   ·rename_i o ho
    obtain⟨O,_⟩:=hr
    split at O
    ·rename_i p v A
     obtain⟨hp,rfl⟩:=O
     split at h2
     ·rename_i t want b
      simp only[SR] at h2
      exact⟨d,b,o,h1,ho,.inr ⟨t,want,h2.1,h2.2,p,A,hp⟩⟩
     ·rename_i i
      simp only[SR,S1] at h2
      have g:rd σ.h σ.s op=some (p,σ.s d):=by
       cases op<;>first|exact A|exact absurd rfl (i _ _ _)
      exact⟨d,op,o,h1,ho,.inl ⟨h2.1.1,h2.1.2,h2.2,p,g,hp⟩⟩
    ·exact O.elim
   ·cases h2
  ·exact Cc h hr.2
theorem ze {sos:List SO} {a:Nat} {σ:St}:∀ {l:List (Nat×Nat×wh)},DR sos a l=true->AL σ l->∃ d D args ts,sos[a]?=some (.c d (.f D) args)/\(∀ x∈args,(∃ n,x= .t n/\n∈ts)\/∃ v,x= .c v/\v.toDV.isSome=true)/\nQ σ.s ts=true
 |[],h,_=>by simp[DR] at h
 |(a',d,op)::l,h,hr=>by
  simp only[AL] at hr
  cases op with
  |cl t ts=>
   simp only[DR,Tn,SR,S1] at h
   rcases h with⟨_,h⟩|h
   ·split at h
    ·rename_i d' D args hs
     simp only[SR,S1,Tp] at h
     refine⟨d',D,args,ts,hs,fun x hx=> ?_, ?_⟩
     ·have:=h.2 x hx
      cases x with
      |t n=>exact .inl ⟨n,rfl,by simpa using this⟩
      |c v=>exact .inr ⟨v,rfl,this⟩
      |f i=>cases this
     ·have h0:=hr.1
      simp only[Qb,rd] at h0
      by_cases hf:nQ σ.s ts=true
      ·exact hf
      ·simp[hf] at h0
    ·cases h
   ·exact ze h hr.2
  |_=>exact ze (by simpa only[DR] using h) hr.2
theorem PM (f:Nat->Bool) (n:Nat):∀ k,k<=n->∃ M,k<=M/\M<=n/\(∀ i,k<=i->i<M->f i=false)/\(M=n\/(M<n/\f M=true)):=by
 intro k hk
 obtain⟨m,Z⟩:∃ m,m=n - k:=⟨_,rfl⟩
 induction m generalizing k with
 |zero=>exact⟨k,S0 _,hk,fun i h1 h2=>by omega,.inl oM⟩
 |succ m ih=>
  by_cases hf:f k=true
  ·exact⟨k,S0 _,hk,fun i h1 h2=>by omega,.inr ⟨by omega,hf⟩⟩
  ·obtain⟨M,h1,h2,E,h4⟩:=ih (k+1) oM oM
   refine⟨M,by omega,h2,fun i h5 h6=> ?_,h4⟩
   by_cases a:i=k
   ·subst a;simpa using hf
   ·exact E i oM h6
theorem Ru (f:Nat->Bool) (k:Nat):∀ M,k<=M->(∀ i,k<=i->i<M->f i=false)\/∃ p,k<=p/\p<M/\f p=true/\∀ i,p<i->i<M->f i=false:=by
 intro M hM
 induction M with
 |zero=>exact .inl fun i h1 h2=>by omega
 |succ M ih=>
  by_cases hk:k=M+1
  ·exact .inl fun i h1 h2=>by omega
  ·by_cases hf:f M=true
   ·exact .inr ⟨M,by omega,by omega,hf,fun i h1 h2=>by omega⟩
   ·rcases ih oM with h|⟨p,h1,h2,E,h4⟩
    ·refine .inl fun i h1 h2=> ?_
     by_cases hi:i=M
     ·subst hi;simpa using hf
     ·exact h i h1 oM
    ·refine .inr ⟨p,h1,by omega,E,fun i h5 h6=> ?_⟩
     by_cases hi:i=M
     ·subst hi;simpa using hf
     ·exact h4 i h5 oM
section
variable {P:Program} {c:Cx}
theorem FI (hS:∀ (j:Nat) (so:SO),sos[j]?=some so->OC P so (S j) (S (j+1))):∀ b,a<=b->b<=sos.length->(∀ i,a<=i->i<b->fX sos i=false)->
  (S b).h=(S a).h/\∀ t,(∀ i,a<=i->i<b->(sos.map c0)[i]?≠some (some t))->(S b).s t=(S a).s t:=by
 intro b q hb hf
 induction b with
 |zero=>
      obtain rfl:a=0:=by omega
      exact⟨rfl,fun _ _=>rfl⟩
 |succ b ih=>
  by_cases m:a=b+1
  ·subst m;exact⟨rfl,fun _ _=>rfl⟩
  obtain⟨h1,h2⟩:=ih oM oM (fun i hi h5=>hf i hi oM)
  obtain⟨so,g⟩:∃ so,sos[b]?=some so:=⟨_,S3 oM⟩
  have hx:EF so=false:=by have:=hf b oM oM;simpa[fX,g] using this
  obtain⟨d,v,hd,_,J⟩:=DO hx (hS b so g)
  have w9:c0 so=some d:=by cases so<;>first|exact hd|simp[EF] at hx
  rw[J]
  refine⟨h1,fun t Y=> ?_⟩
  have A:t≠d:=fun e=>by
   subst e
   exact Y b oM oM (by simp[g,w9])
  simp only[bv _ _ _ _ A]
  exact h2 t fun i hi h5=>Y i hi oM
def dF (f:List (Option Nat)) (M:Nat) (L:Nat->Bool) (t:Nat):Prop:=∃ i:Nat,i<M/\f[i]?=some (some t)/\L i=false
theorem Ji (hQ:∀ X W h6 a' w',cH c X W h6 a' w'->K X->Q .normal a' w') (Z:bh P c.N ops ops.toList sos=true) (hz:∀ i t,fS i .any (z t)=z t) (qx:kp=true->∀ t,((S 0).s t).firm=true->z t=(S 0).s t) (qy:∀ t,z t= .d .any\/(z t=(S 0).s t/\((S 0).s t).firm=true)) (s5:zc kp P c.N ops sos (sos.map c0) 0 ops.toList sos=true) (hS:∀ (j:Nat) (so:SO),sos[j]?=some so->OC P so (S j) (S (j+1))) (hK:K (S sos.length)):
  ∀ (u:Nat) (m:Array Bool) (M:Nat) (κ:Nat->Value) (φ:Nat->List Nat) (a:Act) (w:World),m.size=ops.size->(Fs ops.size m).length=u->
   (∀ (i:Nat) o,m.getD i false=true->ops[i]?=some o->∀ e∈o.after,Region.binds .any e=true->m.getD e.on false=true)->
   M<=sos.length->(∀ i,i<M->fX sos i=true->m.getD i false=true)->(M=sos.length\/(M<sos.length/\fX sos M=true))->(∀ i,M<=i->m.getD i false=false)->
   cH c ⟨pT z (dF (sos.map c0) M (fun i=>m.getD i false)) (S M).s,(S M).h⟩ κ φ a w->
   wpAny P .any ops Q u m a w:=by
 obtain⟨u2,u0⟩:=nU Z
 have h8:sos.length=ops.size:=by simp at u2;omega
 have R:∀ j,j<ops.size->∃ so,sos[j]?=some so:=fun j hj=>⟨_,S3 oM⟩
 have w1:∀ (j:Nat) so,sos[j]?=some so->(sos.map c0)[j]?=some (c0 so):=fun j so h=>by simp[h]
 have u9:∀ (j:Nat) o so,ops[j]?=some o->sos[j]?=some so->DT kp P c.N ops sos (sos.map c0) j o so=true:=fun j o so ho g=>by
  have:=DU s5 j o so (by simpa using ho) g
  simpa using this
 have qj:∀ (j:Nat) o so,ops[j]?=some o->sos[j]?=some so->∀ e∈o.after,Region.binds .any e=true->e.on<j:=fun j o so ho g e J hb=>by
  have:=u9 j o so ho g
  simp only[DT,SR] at this
  have:=Ut.1 this.1.1.1.2 e J
  simpa[hb] using this
 have u1:∀ (j b:Nat) t,(sos.map c0)[j]?=some (some t)->(sos.map c0)[b]?=some (some t)->b=j:=fun j b t hj hb=>by
  have qu:j<sos.length:=by have:=(SY.1 hj).1;simpa using this
  have qh:b<(sos.map c0).length:=(SY.1 hb).1
  obtain⟨so,g⟩:=R j oM
  have:=u9 j ops[j] so (Ug oM) g
  simp only[DT,SR] at this
  have:=Tp.1 this.1.2 b (T7.2 qh)
  simpa[hj,hb] using this
 have qk:∀ (p j:Nat),p<j->j<sos.length->fX sos p=true->back ops p j [j]=true:=fun p j qz hj hp=>by
  obtain⟨so,g⟩:=R j oM
  obtain⟨sp,u7⟩:=R p oM
  have:=u9 j ops[j] so (Ug oM) g
  simp only[DT,SR] at this
  have:=Tp.1 this.2 p (T7.2 qz)
  have hx:EF sp=true:=by simpa[fX,u7] using hp
  simpa[u7,hx] using this
 have B:∀ (m:Array Bool) (M:Nat) (κ:Nat->Value) (φ:Nat->List Nat) (a:Act) (w:World),m.size=ops.size->(M=sos.length\/(M<sos.length/\fX sos M=true))->(∀ i,M<=i->m.getD i false=false)->
   cH c ⟨pT z (dF (sos.map c0) M (fun i=>m.getD i false)) (S M).s,(S M).h⟩ κ φ a w->Region.ready .any ops m=[]->Q .normal a w:=by
  intro m M κ φ a w s3 hM v7 hr r
  have all:∀ j,j<ops.size->m.getD j false=true:=by
   intro j
   induction j using Nat.strongRecOn with
   |_ j ih=>
    intro hj
    by_cases hl:m.getD j true=false
    ·exfalso
     have ho:ops[j]?=some ops[j]:=Ug hj
     obtain⟨so,g⟩:=R j hj
     have hx:=qj j ops[j] so ho g
     have:j∈Region.ready .any ops m:=mem_ready.2 ⟨hl,ops[j],ho,fun e J hb=>ih e.on (hx e J hb) (by have:=hx e J hb;omega)⟩
     rw[r] at this;simp at this
    ·have F:j<m.size:=by omega
     simp[F] at hl⊢
     exact hl
  have v9:M=sos.length:=by
   rcases hM with h|⟨h,_⟩
   ·exact h
   ·have h1:=all M oM
    rw[v7 M (S0 _)] at h1;cases h1
  refine hQ _ _ _ _ _ hr ?_
  have:pT z (dF (sos.map c0) M (fun i=>m.getD i false)) (S M).s=(S M).s:=by
   funext t
   refine fA fun⟨i,_,h1,h2⟩=> ?_
   have qI:i<sos.length:=by have:=(SY.1 h1).1;simpa using this
   simp only[all i oM] at h2;cases h2
  rw[this,v9];exact hK
 intro u
 induction u with
 |zero=>
  intro m M κ φ a w s3 hu _ _ _ hM v7 hr
  have r:Region.ready .any ops m=[]:=by
   cases A:Region.ready .any ops m with
   |nil=>rfl
   |cons i l=>
    exfalso
    have hi:i∈Region.ready .any ops m:=by rw[A];simp
    obtain⟨h0,o,ho,_⟩:=mem_ready.1 hi
    have:i∈Fs ops.size m:=by simp only[Fs,UE,T7,h0,Tw,and_true];exact(Ty.1 ho).1
    rw[Te.1 hu] at this;simp at this
  exact⟨r,B m M κ φ a w s3 hM v7 hr r⟩
 |succ u ih=>
  intro m M κ φ a w s3 hu h7 v9 v3 hM v7 hr
  refine⟨B m M κ φ a w s3 hM v7 hr,fun j hj=> ?_⟩
  obtain⟨h0,o,ho,s8⟩:=mem_ready.1 hj
  have v2:j<ops.size:=(Ty.1 ho).1
  obtain⟨so,g⟩:=R j v2
  have s1:m.getD j false=false:=by
   simp only[TD] at h0⊢
   have:j<m.size:=by omega
   simpa[this] using h0
  have qa:=Ds h7 ho s8 oM
  have w5:(Fs ops.size (m.setIfInBounds j true)).length=u:=by
   have:=JM v2 s3 h0
   omega
  have u8:∀ i,(m.setIfInBounds j true).getD i false=(m.getD i false||i==j):=fun i=>by
   by_cases V:j=i
   ·subst V;simp[s3,v2]
   ·rw[getD_set_ne false V];simp[Ne.symm V]
  have qJ:j<=M:=by
   rcases Th M j with h9|r9
   ·exfalso
    rcases hM with h|⟨h,hx⟩
    ·omega
    ·have h1:=qk M j h9 oM hx
     have h2:=mK qa j [j] (by simp[u8]) h1
     rw[u8,v7 M (S0 _)] at h2
     simp at h2
     omega
   ·exact r9
  have v4:=u9 j o so ho g
  have u5:∀ (xs:List SX) (fo fw:Bool),wk kp fo fw ops sos (sos.map c0) j o xs=true->∀ t,.t t∈xs->(¬ dF (sos.map c0) M (fun i=>m.getD i false) t/\∀ b:Nat,(sos.map c0)[b]?=some (some t)->b<j\/M<=b)\/
    (kp=true/\fo=true/\∃ b:Nat,(sos.map c0)[b]?=some (some t)/\j<b/\b<M/\m.getD b false=false/\(fw=true\/∃ p,j<=p/\p<b/\fX sos p=true)/\∀ p,p<M->fX sos p=true->p<b):=fun xs fo fw T t Y=>by
   have qb:∀ b p:Nat,p<b->j<=p->fX sos p=true->(p=j\/back ops j p [p]=true)->M<=b:=fun b p h1 h2 E h4=>by
    rcases Th b M with h9|w0
    ·exfalso
     have qc:=v3 p oM E
     rcases h4 with rfl|h4
     ·rw[s1] at qc;cases qc
     ·have:=mK h7 p [p] (by simpa using qc) h4
      rw[s1] at this;cases this
    ·exact w0
   by_cases v5:∃ b:Nat,(sos.map c0)[b]?=some (some t)/\kp=true/\fo=true/\j<b/\back ops j b [b]=true/\b<M/\(fw=true\/∃ p,j<=p/\p<b/\fX sos p=true)/\∀ p,p<sos.length->fX sos p=true->p<b\/back ops j p [p]=true
   ·obtain⟨b,hb,k1,k2,k3,k4,k5,k7,k6⟩:=v5
    refine .inr ⟨k1,k2,b,hb,k3,k5, ?_,k7,fun p hp hx=> ?_⟩
    ·by_cases ql:m.getD b false=true
     ·have:=mK h7 b [b] (by simpa using ql) k4
      rw[s1] at this;cases this
     ·simpa using ql
    ·rcases k6 p oM hx with h|h
     ·exact h
     ·have:=mK h7 p [p] (by simpa using v3 p hp hx) h
      rw[s1] at this;cases this
   ·refine .inl ⟨fun⟨b,qA,v1,s0⟩=> ?_,fun b hb=> ?_⟩
    ·rcases DW T Y v1 with⟨_,e,J,w4,rfl⟩|⟨p,h1,h2,E,h4⟩|⟨k1,k2,k3,k4,k7,k5⟩
     ·simp only[s8 e J w4] at s0;cases s0
     ·have:=qb b p h1 h2 E h4;omega
     ·exact v5 ⟨b,v1,k1,k2,k3,k4,qA,k7,k5⟩
    ·rcases DW T Y hb with⟨h,_⟩|⟨p,h1,h2,E,h4⟩|⟨k1,k2,k3,k4,k7,k5⟩
     ·exact .inl h
     ·exact .inr (qb b p h1 h2 E h4)
     ·refine .inr ?_
      rcases Th b M with h9|w0
      ·exact absurd ⟨b,hb,k1,k2,k3,k4,h9,k7,k5⟩ v5
      ·exact w0
  have v0:∀ (xs:List SX),(∃ fw,wk kp false fw ops sos (sos.map c0) j o xs=true)->∀ t,.t t∈xs->¬ dF (sos.map c0) M (fun i=>m.getD i false) t/\∀ b:Nat,(sos.map c0)[b]?=some (some t)->b<j\/M<=b:=fun xs ⟨fw,T⟩ t Y=>
   (u5 xs false fw T t Y).resolve_right fun h=>by cases h.2.1
  have first:∀ (n b k:Nat),kp=true->(sos.map c0)[b]?=some (some n)->k<=b->k<=sos.length->b<M->m.getD b false=false->((S k).s n).firm=true->pT z (dF (sos.map c0) M (fun i=>m.getD i false)) (S M).s n=(S k).s n:=fun n b k qB hb r4 qp qC ql hf=>by
   rw[o6 (U:=dF (sos.map c0) M (fun i=>m.getD i false)) ⟨b,qC,hb,ql⟩]
   have h0:=DQ hS (a:=0) (n:=n) k (To _) qp (fun i _ h5 h=>by have:=u1 b i n hb h;omega) hf
   rw[<-h0]
   exact qx qB n (by rw[h0];exact hf)
  unfold wpOp
  simp only[ho]
  by_cases hX:EF so=true
  ·
   have qo:j=M:=by
    rcases Th j M with h9|r9
    ·have:=v3 j h9 (by simpa[fX,g] using hX)
     rw[s1] at this;cases this
    ·omega
   subst qo
   obtain⟨e,I,qD,w7,qq⟩:∃ (e:Option Nat) (I:SO),e=c0 so/\l6 P c.N ops o I=true/\AO P I ⟨pT z (dF (sos.map c0) j (fun i=>m.getD i false)) (S j).s,(S j).h⟩ (· =⟨pT z (fun t=>dF (sos.map c0) j (fun i=>m.getD i false) t/\e≠some t) (S (j+1)).s,(S (j+1)).h⟩):=by
    cases so<;>simp[EF] at hX
    ·rename_i d op late
     obtain⟨p,G,hp,r7⟩:=hS j _ g
     have T:∃ fw,wk kp false fw ops sos (sos.map c0) j o (Hh op)=true:=by
      simp only[DT,SR] at v4;exact⟨_,v4.1.1.2⟩
     have qE:=MN hz (U:=dF (sos.map c0) j (fun i=>m.getD i false)) G (fun x hx t Y=>(v0 _ T t (Y▸hx)).1)
     refine⟨tg d op,.x d op [],rfl, ?_, ?_⟩
     ·have:=u0 j o _ (by simpa using ho) g
      simpa only[l6,eD] using this
     ·simp only[AO,qE,AL,and_true,true_and];exact hp
    ·rename_i d f args late
     obtain⟨D,ins,outs,C,L,N,q3,q4,H,q5,r7⟩:=hS j _ g
     have T:∃ fw,wk kp false fw ops sos (sos.map c0) j o (f::args)=true:=by
      simp only[DT,SR] at v4;exact⟨_,v4.1.1.2⟩
     refine⟨some d,.q d f args [],rfl, ?_, ?_⟩
     ·have:=u0 j o _ (by simpa using ho) g
      simpa only[l6,eD] using this
     ·have qd:∀ x∈f::args,ev (pT z (dF (sos.map c0) j (fun i=>m.getD i false)) (S j).s) x=ev (S j).s x:=fun x hx=>l7 fun t Y=>(v0 _ T t (Y▸hx)).1
      have r5:args.map (ev (pT z (dF (sos.map c0) j (fun i=>m.getD i false)) (S j).s))=args.map (ev (S j).s):=T3 fun x hx=>qd x (by simp[hx])
      exact⟨D,ins,outs,C,L,_,by rw[<-N];exact qd f oS,q3,q4,by simp only[r5];exact H,H0 hz q5,trivial,rfl⟩
   refine ym hr w7 qq fun X W h6 a' w' r1 hk=> ?_
   subst hk
   obtain⟨M',h1,h2,E,h4⟩:=PM (fX sos) sos.length (j+1) oM
   obtain⟨N,H⟩:=FI hS M' h1 h2 E
   have qr:cS ⟨pT z (fun t=>dF (sos.map c0) j (fun i=>m.getD i false) t/\e≠some t) (S (j+1)).s,(S (j+1)).h⟩ ⟨pT z (dF (sos.map c0) M' (fun i=>(m.setIfInBounds j true).getD i false)) (S M').s,(S M').h⟩:=by
    refine xa (fun t=> ?_) (fun i=> .inl (by simp only[N]))
    by_cases hU:dF (sos.map c0) M' (fun i=>(m.setIfInBounds j true).getD i false) t
    ·show pT z (dF (sos.map c0) M' (fun i=>(m.setIfInBounds j true).getD i false)) (S M').s t=pT z (fun t=>dF (sos.map c0) j (fun i=>m.getD i false) t/\e≠some t) (S (j+1)).s t\/pT z (dF (sos.map c0) M' (fun i=>(m.setIfInBounds j true).getD i false)) (S M').s t=_
     by_cases hV:dF (sos.map c0) j (fun i=>m.getD i false) t/\e≠some t
     ·rw[o6 hU,o6 (U:=fun t=>dF (sos.map c0) j (fun i=>m.getD i false) t/\e≠some t) hV];exact .inl rfl
     ·rw[o6 hU,fA (U:=fun t=>dF (sos.map c0) j (fun i=>m.getD i false) t/\e≠some t) hV]
      rcases qy t with h|⟨h,hf⟩
      ·exact .inr h
      ·refine .inl ?_
       obtain⟨i,v8,u3,r0⟩:=hU
       have V:j<i:=by
        rcases Th j i with h'|h'
        ·exact h'
        ·exfalso
         simp only[u8,TF,U7,ne_eq] at r0
         refine hV ⟨⟨i,by omega,u3,r0.1⟩,fun J=> ?_⟩
         rw[qD] at J
         have:=u1 j i t (by rw[w1 j so g,J]) u3
         omega
       rw[h]
       exact(MQ hS (a:=0) hf (j+1) (To _) oM fun q _ hq h'=>by have:=u1 i q t u3 h';omega).symm
    ·refine .inl ?_
     simp only[fA hU]
     rw[fA,H t]
     ·intro i hi h5 J
      refine hU ⟨i,h5,J, ?_⟩
      simp only[u8,v7 i oM,Tx,U7,ne_eq]
      omega
     ·rintro⟨⟨i,v8,u3,r0⟩,_⟩
      refine hU ⟨i,by omega,u3, ?_⟩
      simp only[u8,r0,Tx,U7,ne_eq]
      omega
   obtain⟨u4,s9,s2⟩:=qr _ _ _ _ _ r1
   refine ih (m.setIfInBounds j true) M' u4 s9 a' w' (by simp[s3]) w5 qa h2 ?_ h4 ?_ s2
   ·intro i hi hx
    rw[u8]
    by_cases V:i=j
    ·simp[V]
    ·rcases Th i j with h9|w0
     ·simp[v3 i h9 hx]
     ·rw[E i oM hi] at hx;cases hx
   ·intro i hi
    rw[u8,v7 i oM];simp;omega
  ·
   simp only[Uk] at hX
   obtain⟨d,v,hd,hy,J⟩:=DO hX (hS j so g)
   have w9:c0 so=some d:=by cases so<;>first|exact hd|simp[EF] at hX
   have w6:(sos.map c0)[j]?=some (some d):=by rw[w1 j so g,w9]
   have qo:j<M:=by
    rcases hM with h|⟨h,hx⟩
    ·omega
    ·rcases Th j M with h'|h'
     ·exact h'
     ·obtain rfl:j=M:=by omega
      simp only[fX,g,hX] at hx;cases hx
   have T:wk kp (Sm so) (MO so) ops sos (sos.map c0) j o (Mh so)=true:=by
    simp only[DT,SR] at v4
    have:=v4.1.1.2
    cases so<;>first|exact this|simp[EF] at hX
   have qm:aD (pT z (dF (sos.map c0) M (fun i=>m.getD i false)) (S M).s) d ((S M).s d)=pT z (dF (sos.map c0) M (fun i=>(m.setIfInBounds j true).getD i false)) (S M).s:=by
    funext t
    by_cases Y:t=d
    ·subst Y
     rw[au,fA]
     rintro⟨i,_,u3,r0⟩
     have:=u1 j i t w6 u3
     subst this
     simp[u8] at r0
    ·rw[bv _ _ _ _ Y]
     by_cases hU:dF (sos.map c0) M (fun i=>m.getD i false) t
     ·rw[o6 hU,o6]
      obtain⟨i,v8,u3,r0⟩:=hU
      refine⟨i,v8,u3, ?_⟩
      simp only[u8,r0,Tx,U7,ne_eq]
      intro V
      subst V
      rw[w6] at u3;simp at u3;exact Y u3.symm
     ·rw[fA hU,fA]
      rintro⟨i,v8,u3,r0⟩
      exact hU ⟨i,v8,u3,by simp only[u8,TF] at r0;exact r0.1⟩
   have key:∃ I,l6 P c.N ops o I=true/\kL I=some d/\YS P (S M).h I (pT z (dF (sos.map c0) M (fun i=>m.getD i false)) (S M).s) ((S M).s d):=by
    rcases Ru (fX sos) j M oM with r6|⟨p,u6,qi,qe,qv⟩
    ·obtain⟨N,H⟩:=FI hS M oM v9 r6
     obtain⟨q3,q4⟩:=FI hS (a:=j+1) M oM v9 (fun i hi h5=>r6 i oM h5)
     have hv:(S M).s d=v:=by
      rw[q4 d fun i hi h5 h=>by have:=u1 j i d w6 h;omega,J]
      simp[au]
     refine⟨so,u0 j o so (by simpa using ho) g,hd, ?_⟩
     rw[hv,N]
     refine Dq (s:=(S j).s) (fun x hx=> ?_) hy
     cases x with
     |t n=>
      show(S j).s n=pT z _ (S M).s n
      rcases u5 _ _ _ T n hx with⟨o1,o2⟩|⟨k1,k2,b,k3,k4,k5,k6,k7,_⟩
      ·rw[fA o1,H n fun i hi h5 h=>by have:=o2 i h;omega]
      ·refine(first n b j k1 k3 oM oM k5 k6 ?_).symm
       rcases k7 with k7|⟨p,m1,m2,m3⟩
       ·cases so<;>simp only[MO,Tj] at k7
        obtain⟨pp,A,_⟩:=hy
        exact J3 A k7 hx
       ·have:=r6 p m1 oM
        rw[m3] at this;cases this
     |c v=>rfl
     |f i=>rfl
    ·have qF:j<p:=by
      rcases Th j p with h|h
      ·exact h
      ·obtain rfl:p=j:=by omega
       simp only[fX,g,hX] at qe;cases qe
     obtain⟨sp,u7⟩:=R p oM
     have qs:EF sp=true:=by simpa[fX,u7] using qe
     have qw:=u9 p ops[p] sp (Ug oM) u7
     simp only[DT,SR] at qw
     have hl:=Tp.1 qw.2 j (T7.2 qF)
     simp only[g,hX,qs,S7,Tx,Tj,Tv,Tn] at hl
     have qc:=v3 p qi qe
     have qt:AL (S (p+1)) (Bf sp):=by
      cases sp<;>simp[EF] at qs
      ·obtain⟨_,_,_,r7⟩:=hS p _ u7;exact r7
      ·obtain⟨_,_,_,_,_,_,_,_,_,_,r7⟩:=hS p _ u7;exact r7
     rcases hl with(hl|hl)|hl
     rotate_left 2
     ·obtain⟨d2,D,args,ts,e1,e2,e3⟩:=ze hl qt
      rw[g] at e1;simp only[SN] at e1;subst e1
      simp only[kL,SN] at hd;subst hd
      obtain⟨N,H⟩:=FI hS (a:=p+1) M oM v9 (fun i hi h5=>qv i oM h5)
      have v6:∀ n,n∈ts->(.t n:SX)∈args->(S j).s n=(S M).s n/\pT z (dF (sos.map c0) M (fun i=>m.getD i false)) (S M).s n=(S M).s n/\((S M).s n).firm=true:=fun n hn qf=>by
       obtain⟨o1,o2⟩:=v0 _ ⟨_,by simpa only[Sm] using T⟩ n (by simp[Mh,qf])
       have h1:(S M).s n=(S (p+1)).s n:=H n fun i hi h5 h=>by have:=o2 i h;omega
       have h2:=Cb e3 n hn
       have E:=DQ hS (a:=j) (n:=n) (p+1) oM oM (fun i hi h5 h=>by have:=o2 i h;omega) h2
       exact⟨by rw[h1,E],fA o1,by rw[h1];exact h2⟩
      have qd:∀ x∈args,ev (S j).s x=ev (pT z (dF (sos.map c0) M (fun i=>m.getD i false)) (S M).s) x/\∃ v,(ev (S j).s x).toDV=some v:=fun x hx=>by
       rcases e2 x hx with⟨n,rfl,hn⟩|⟨v,rfl,hv⟩
       ·obtain⟨k1,k2,k3⟩:=v6 n hn hx
        refine⟨by simp only[ev];rw[k2,k1], ?_⟩
        simp only[ev];rw[k1];exact FH _ k3
       ·exact⟨rfl,TX.1 hv⟩
      have s4:args.map (ev (pT z (dF (sos.map c0) M (fun i=>m.getD i false)) (S M).s))=args.map (ev (S j).s):=T3 fun x hx=>((qd x hx).1).symm
      obtain⟨O,r8⟩:∃ O,SV.toDVs (args.map (ev (S j).s))=some O:=by
       have:∀ l:List SX,(∀ x∈l,∃ v,(ev (S j).s x).toDV=some v)->∃ O,SV.toDVs (l.map (ev (S j).s))=some O:=fun l=>by
        induction l with
        |nil=>intro _;exact⟨[],rfl⟩
        |cons x l ih=>
         intro h
         obtain⟨v,hv⟩:=h x oS
         obtain⟨O,r8⟩:=ih fun y hy=>h y (by simp[hy])
         exact⟨v::O,by simp only[S5,SV.toDVs,hv,r8]⟩
       exact this args fun x hx=>(qd x hx).2
      simp only[YS,ev,kU _ _ _ r8] at hy
      obtain⟨C,y1,_,rfl⟩:=hy
      have qG:(S M).s d2= .d C:=OD hS (a:=j+1) (by rw[J];simp[aD]) M oM v9 fun i hi h5 h=>by have:=u1 j i d2 w6 h;omega
      refine⟨.c d2 (.f D) args,u0 j o _ (by simpa using ho) g,rfl, ?_⟩
      simp only[YS,ev,s4,kU _ _ _ r8]
      exact⟨C,y1,.inl (by rw[r8];rfl),qG⟩
     ·exfalso
      have:=mK h7 p [p] (by simpa using qc) hl
      rw[s1] at this;cases this
     ·have r7:AL (S (p+1)) (Bf sp):=by
       cases sp<;>simp[EF] at qs
       ·obtain⟨_,_,_,r7⟩:=hS p _ u7;exact r7
       ·obtain⟨_,_,_,_,_,_,_,_,_,_,r7⟩:=hS p _ u7;exact r7
      obtain⟨d2,w2,o2,k1,k2,kk⟩:=Cc hl r7
      rw[ho] at k2;simp only[SN] at k2;subst k2
      rw[w6] at k1;simp only[SN] at k1;subst k1
      obtain⟨N,H⟩:=FI hS (a:=p+1) M oM v9 (fun i hi h5=>qv i oM h5)
      have qn:(S M).s d=(S (p+1)).s d:=H d fun i hi h5 h=>by have:=u1 j i d w6 h;omega
      have w3:∀ (xs:List SX) (fo:Bool),wk kp fo true ops sos (sos.map c0) j o xs=true->∀ n,.t n∈xs->(fo=true->((S (p+1)).s n).firm=true)->pT z (dF (sos.map c0) M (fun i=>m.getD i false)) (S M).s n=(S (p+1)).s n:=fun xs fo T n hx qH=>by
       rcases u5 _ _ _ T n hx with⟨o1,o3⟩|⟨m1,m2,b,m3,m4,m5,m6,_,m7⟩
       ·rw[fA o1,H n fun i hi h5 h=>by have:=o3 i h;omega]
       ·have:=m7 p qi qe
        exact first n b (p+1) m1 m3 oM oM m5 m6 (qH m2)
      have qg:∀ {w2:wh} {v:SV} {pp:Prop},rd (S (p+1)).h (S (p+1)).s w2=some (pp,v)->∀ n,.t n∈tz w2->(xb w2||DP w2 (Bf sp))=true->((S (p+1)).s n).firm=true:=fun hv n hn hf=>by
       rw[Tn] at hf
       rcases hf with hf|hf
       ·exact J3 hv hf hn
       ·exact Jh hf r7 hn
      rcases kk with⟨k3,k4,k5,pp,k6,k7⟩|⟨gt,gw,k4,k5,pp,k6,k7⟩
      ·refine⟨.r d w2,by simp only[l6,k3,k4];rfl,rfl,pp, ?_,k7⟩
       rw[N,qn,<-k6]
       refine Dp fun x hx=> ?_
       cases x with
       |t n=>exact w3 _ _ k5 n hx (qg k6 n hx)
       |c v=>rfl
       |f i=>rfl
      ·have r2:((S (p+1)).s gt).firm=true:=by
        simp only[Qb] at k6
        split at k6
        ·rename_i hb;rw[hb];rfl
        ·rename_i hb;rw[hb];rfl
        ·cases k6
       have e1:=w3 _ _ k5 gt oS (fun _=>r2)
       refine⟨.g gt gw (some d) (.r d w2),k4,by simp[kL], ?_⟩
       simp only[YS]
       simp only[Qb] at k6
       split at k6
       ·rename_i b hb
        split at k6
        ·rename_i w8
         refine .inl ⟨b,e1.trans hb,.inl ⟨w8,pp, ?_,k7⟩⟩
         rw[N,qn,<-k6]
         refine Dp fun x hx=> ?_
         cases x with
         |t n=>exact w3 _ _ k5 n (Tz _ hx) (qg k6 n hx)
         |c v=>rfl
         |f i=>rfl
        ·rename_i w8
         simp only[SN,SS] at k6
         refine .inl ⟨b,e1.trans hb,.inr ⟨?_,qn.trans k6.2.symm⟩⟩
         exact OE w8
       ·rename_i hb
        simp only[SN,SS] at k6
        exact .inr ⟨e1.trans hb,qn.trans k6.2.symm⟩
       ·cases k6
   obtain⟨I,s6,r3,s7⟩:=key
   refine ym hr s6 (HC r3 s7) fun X W h6 a' w' r1 hk=> ?_
   subst hk
   refine ih (m.setIfInBounds j true) M W h6 a' w' (by simp[s3]) w5 qa v9 ?_ hM ?_ ?_
   ·intro i hi hx;rw[u8,v3 i hi hx];rfl
   ·intro i hi;rw[u8,v7 i hi];simp;omega
   ·rw[<-qm];exact r1
theorem DX {a:Act} (hQ:∀ X W h6 a' w',cH c X W h6 a' w'->K X->Q .normal a' w') (Z:bh P c.N ops ops.toList sos=true) (s5:zc true P c.N ops sos (sos.map c0) 0 ops.toList sos=true) (r2:∀ U,∃ W h6,cH c ⟨pT (se σ.s) U σ.s,σ.h⟩ W h6 a w) (h:a6 P K sos σ):
  wpAny P .any ops Q ops.size (Array.replicate ops.size false) a {w with drawn:=w.drawn+1}:=by
 obtain⟨u2,u0⟩:=nU Z
 have h8:sos.length=ops.size:=by simp at u2;omega
 obtain⟨S,b,hS,hK⟩:=J2 sos σ (fun so g=>by
  obtain⟨j,hj,G⟩:=List.getElem_of_mem g
  have:=DU s5 j ops[j] so oS (by rw[S3 hj,G])
  simp only[DT,SR] at this
  exact this.1.1.1.1) h
 obtain⟨M,h1,h2,E,h4⟩:=PM (fX sos) sos.length 0 oM
 have r0:∀ i,(Array.replicate ops.size false).getD i false=false:=fun i=>by
  by_cases hi:i<ops.size<;>simp[hi]
 obtain⟨W,h6,hr⟩:=r2 (dF (sos.map c0) M (fun i=>(Array.replicate ops.size false).getD i false))
 refine Ji (c:=c) hQ Z (Ld σ.s) (fun _ t h=>by rw[b] at h⊢;simp[se,h]) (fun t=>by rw[b];exact H2 σ.s t) s5 hS hK ops.size _ M W h6 a _ oS ?_ ?_ h2 ?_ h4 (fun i _=>r0 i) ?_
 ·have:Fs ops.size (Array.replicate ops.size false)=List.range ops.size:=by
   unfold Fs
   rw[U6]
   intro i hi
   simp at hi
   simp[hi]
  rw[this];simp
 ·intro i o hi
  rw[r0] at hi;cases hi
 ·intro i hi hx
  rw[E i oM hi] at hx;cases hx
 ·obtain⟨N,H⟩:=FI hS M h1 h2 (fun i hi h5=>E i hi h5)
  rw[N,b]
  have:pT (se σ.s) (dF (sos.map c0) M (fun i=>(Array.replicate ops.size false).getD i false)) (S M).s=pT (se σ.s) (dF (sos.map c0) M (fun i=>(Array.replicate ops.size false).getD i false)) σ.s:=by
   refine Lc fun t Y=> ?_
   rw[H t fun i hi h5 J=>Y ⟨i,h5,J,r0 i⟩,b]
  rw[this]
  exact hr.grown ((Below.refl _ _).drew)
theorem GN (D:P.follows .mixedOrders=true) {a:Act} (hQ:∀ X W h6 a' w',cH c X W h6 a' w'->K X->Q .normal a' w') (Z:bh P c.N ops ops.toList sos=true) (s5:zc true P c.N ops sos (sos.map c0) 0 ops.toList sos=true) (r2:∀ U,∃ W h6,cH c ⟨pT (se σ.s) U σ.s,σ.h⟩ W h6 a w) (h:a6 P K sos σ):
  (Code.region id ops true).wp P Q a w:=wp_region_any D (DX hQ Z s5 r2 h)
end
def fB (π:List Nat) (ops:Array Oper):Array Oper:=
 (π.filterMap fun i=>(ops[i]?).map fun o=>{o with after:=o.after.map fun e=>{e with on:=π.idxOf e.on}}).toArray
def vp (π:List Nat) (ops:Array Oper):Bool:=
 π.length==ops.size&&π.all (fun i=>decide (i<ops.size))&&(List.range ops.size).all (fun i=>π.contains i)&&decide π.Nodup&&ops.all (fun o=>o.guard==none)
theorem pD {α β:Type} {f:α->Option β} {g:α->β}:∀ {l:List α},(∀ x∈l,f x=some (g x))->l.filterMap f=l.map g
 |[],_=>rfl
 |x::l,h=>by rw[List.filterMap_cons_some (h x oS),pD fun y hy=>h y (by simp[hy])];rfl
theorem Jj (hp:vp π ops=true):∀ (u:Nat) (m b:Array Bool) (a:Act) (w:World),m.size=ops.size->b.size=ops.size->
  (∀ k i:Nat,π[k]?=some i->b.getD k false=m.getD i false)->wpAny P .any (fB π ops) Q u b a w->wpAny P .any ops Q u m a w:=by
 simp only[vp,SR,S1,SU,Tp,Ut,T7,UF] at hp
 obtain⟨⟨⟨⟨h8,h9⟩,p⟩,y⟩,hg⟩:=hp
 have I:(fB π ops).size=ops.size:=by
  unfold fB
  rw[pD (g:=fun i=>{(ops.getD i ⟨none,.move (.tmp 0),0, "",#[],none⟩) with after:=((ops.getD i ⟨none,.move (.tmp 0),0, "",#[],none⟩).after.map fun e=>{e with on:=π.idxOf e.on})})]
  ·simp[h8]
  ·intro i hi
   have:=h9 i hi
   simp[this]
 have R:∀ k i:Nat,π[k]?=some i->∃ o,ops[i]?=some o/\(fB π ops)[k]?=some {o with after:=o.after.map fun e=>{e with on:=π.idxOf e.on}}:=by
  intro k i hk
  have hi:i<ops.size:=h9 i (ST hk)
  refine⟨ops[i],by simp, ?_⟩
  unfold fB
  rw[pD (g:=fun i=>{(ops.getD i ⟨none,.move (.tmp 0),0, "",#[],none⟩) with after:=((ops.getD i ⟨none,.move (.tmp 0),0, "",#[],none⟩).after.map fun e=>{e with on:=π.idxOf e.on})})]
  ·simp[hk,hi]
  ·intro j hj
   have:=h9 j hj
   simp[this]
 have s1:∀ i:Nat,i<ops.size->π[π.idxOf i]?=some i:=by
  intro i hi
  have:=p i hi
  rw[S3 (List.idxOf_lt_length_iff.2 this),List.getElem_idxOf]
 have r:∀ (m b:Array Bool),m.size=ops.size->b.size=ops.size->(∀ k i:Nat,π[k]?=some i->b.getD k false=m.getD i false)->∀ k i:Nat,π[k]?=some i->(k∈Region.ready .any (fB π ops) b↔i∈Region.ready .any ops m):=by
  intro m b h1 h2 hl k i hk
  obtain⟨o,ho,ho'⟩:=R k i hk
  have hi:i<ops.size:=(Ty.1 ho).1
  have r3:k<ops.size:=by have:=(SY.1 hk).1;omega
  have hd:b.getD k true=m.getD i true:=by
   have:=hl k i hk
   have M:b.getD k false=b.getD k true:=by simp[TD,h2,r3]
   have a2:m.getD i false=m.getD i true:=by simp[TD,h1,hi]
   rw[<-M,<-a2];exact this
  have v:∀ x:Nat,b.getD (π.idxOf x) false=m.getD x false:=by
   intro x
   by_cases hx:x<ops.size
   ·exact hl _ _ (s1 x hx)
   ·have W:x∉π:=fun Z=>hx (h9 x Z)
    rw[List.idxOf_eq_length W]
    simp[TD,h1,h2,h8,hx]
  rw[mem_ready,mem_ready,hd]
  constructor
  ·rintro⟨N,o2,H,q3⟩
   rw[ho'] at H;simp only[SN] at H;subst H
   refine⟨N,o,ho,fun e J hb=> ?_⟩
   have:=q3 {e with on:=π.idxOf e.on} (by simp only[Array.mem_map];exact⟨e,J,rfl⟩) hb
   rw[<-v];exact this
  ·rintro⟨N,o2,H,q3⟩
   rw[ho] at H;simp only[SN] at H;subst H
   refine⟨N,_,ho',fun e J hb=> ?_⟩
   simp only[Array.mem_map] at J
   obtain⟨K,A,rfl⟩:=J
   rw[v];exact q3 K A hb
 have s:∀ (m b:Array Bool),m.size=ops.size->b.size=ops.size->(∀ k i:Nat,π[k]?=some i->b.getD k false=m.getD i false)->Region.ready .any ops m=[]->Region.ready .any (fB π ops) b=[]:=by
  intro m b h1 h2 hl hn
  cases hr:Region.ready .any (fB π ops) b with
  |nil=>rfl
  |cons k l=>
   exfalso
   have hk:k∈Region.ready .any (fB π ops) b:=by rw[hr];simp
   obtain⟨_,o,ho,_⟩:=mem_ready.1 hk
   have q:k<π.length:=by have:=(Ty.1 ho).1;omega
   have:=(r m b h1 h2 hl k π[k] (S3 q)).1 hk
   rw[hn] at this;simp at this
 intro u
 induction u with
 |zero=>
  intro m b a w h1 h2 hl h
  refine⟨?_,h.2⟩
  cases hr:Region.ready .any ops m with
  |nil=>rfl
  |cons i l=>
   exfalso
   have hi:i∈Region.ready .any ops m:=by rw[hr];simp
   obtain⟨_,o,ho,_⟩:=mem_ready.1 hi
   have:=(r m b h1 h2 hl _ _ (s1 i (Ty.1 ho).1)).2 hi
   rw[h.1] at this;simp at this
 |succ u ih=>
  intro m b a w h1 h2 hl h
  refine⟨fun hn=>h.1 (s m b h1 h2 hl hn),fun i hi=> ?_⟩
  obtain⟨_,o,ho,_⟩:=mem_ready.1 hi
  have z:i<ops.size:=(Ty.1 ho).1
  have hk:=s1 i z
  have r3:=(r m b h1 h2 hl _ _ hk).2 hi
  have E:=h.2 _ r3
  obtain⟨o2,h4,ho'⟩:=R _ _ hk
  rw[ho] at h4;simp only[SN] at h4;subst h4
  have f:o.guard=none:=by simpa using hg o (Array.mem_of_getElem? ho)
  unfold wpOp at E⊢
  simp only[ho'] at E
  simp only[ho]
  have w7:Region.wanted o (yielded ops a.tmps)=true:=by simp[Region.wanted,f]
  have u5:Region.wanted {o with after:=o.after.map fun e=>{e with on:=π.idxOf e.on}} (yielded (fB π ops) a.tmps)=true:=by simp[Region.wanted,f]
  rw[u5,Ub rfl] at E
  rw[w7,Ub rfl]
  have n:∀ a' w',wpAny P .any (fB π ops) Q u (b.setIfInBounds (π.idxOf i) true) a' w'->wpAny P .any ops Q u (m.setIfInBounds i true) a' w':=fun a' w'=>ih _ _ a' w' (by simp[h1]) (by simp[h2]) fun k j d=>by
   have q:k<π.length:=(SY.1 d).1
   by_cases V:j=i
   ·subst V
    have t:k=π.idxOf j:=by
     have e1:=(SY.1 d).2
     have e2:=(SY.1 hk).2
     exact(List.getElem_inj y).1 (e1.trans e2.symm)
    subst t
    simp[TD,h1,h2,z,h8▸q]
   ·have t:π.idxOf i≠k:=fun e=>by
     subst e
     rw[hk] at d;simp at d;exact V d.symm
    rw[getD_set_ne false t,getD_set_ne false (Ne.symm V)]
    exact hl k j d
  rcases E with E|E
  ·exact .inl (Oper.wp_mono n E)
  ·exact .inr E
theorem Jk {a:Act} (hr:cH c σ κ φ a w) (hQ:∀ X W h6 a' w',cH c X W h6 a' w'->K X->Q .normal a' w') (hp:vp π ops=true) (Z:bh P c.N (fB π ops) (fB π ops).toList sos=true) (s5:zc true P c.N (fB π ops) sos (sos.map c0) 0 (fB π ops).toList sos=true) (h:a6 P K sos σ):
  wpAny P .any ops Q ops.size (Array.replicate ops.size false) a {w with drawn:=w.drawn+1}:=by
 have h1:=DX hQ Z s5 (fun U=>xa (σ:=σ) (X:=⟨pT (se σ.s) U σ.s,σ.h⟩) (fun t=>H3 σ.s U t) (fun _=> .inl rfl) _ _ _ _ _ hr) h
 have h8:π.length=ops.size:=by simp only[vp,SR,S1] at hp;exact hp.1.1.1.1
 have I:(fB π ops).size=ops.size:=by
  have:=congrArg List.length (show(fB π ops).toList=_ from rfl)
  have h2:=hp
  simp only[vp,SR,S1,Tp,SU] at h2
  unfold fB
  rw[pD (g:=fun i=>{(ops.getD i ⟨none,.move (.tmp 0),0, "",#[],none⟩) with after:=((ops.getD i ⟨none,.move (.tmp 0),0, "",#[],none⟩).after.map fun e=>{e with on:=π.idxOf e.on})})]
  ·simp[h8]
  ·intro i hi
   have:=h2.1.1.1.2 i hi
   simp[this]
 rw[I] at h1
 refine Jj hp ops.size _ _ a _ oS oS (fun k i hk=> ?_) h1
 have r3:k<ops.size:=by have:=(SY.1 hk).1;omega
 by_cases hi:i<ops.size<;>simp[TD,r3,hi]
theorem GO (D:P.follows .mixedOrders=true) {a:Act} (hr:cH c σ κ φ a w) (hQ:∀ X W h6 a' w',cH c X W h6 a' w'->K X->Q .normal a' w') (hp:vp π ops=true) (Z:bh P c.N (fB π ops) (fB π ops).toList sos=true) (s5:zc true P c.N (fB π ops) sos (sos.map c0) 0 (fB π ops).toList sos=true) (h:a6 P K sos σ):
  (Code.region id ops true).wp P Q a w:=wp_region_any D (Jk hr hQ hp Z s5 h)
def GP (ops:Array Oper) (j i:Nat):Array Oper:=match ops[j]? with
 |some o=>ops.setIfInBounds j {o with after:=o.after.push ⟨i,.data⟩}
 |none=>ops
def Qq (i:Nat) (ops:Array Oper) (π:List Nat) (p s2:List SO):Bool:=
 ops.all (fun o=>o.guard==none)&&decide (i+1<ops.size)&&(List.range i).all (fun k=>π[k]?==some k&& !fX p k)&&π[i]?==some (i+1)&&π[i+1]?==some i&&fX p i&&fX s2 i&&(List.range ops.size).all (fun k=>decide (k<i+2)||π[k]?==some k)
