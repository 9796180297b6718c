/-
  My text.
-/
import Derived.Test.YtgmnipfafmphaaaGreatDoorSYEngK
namespace Go.Proofs.YtgmnipfafmphaaaGreatDoor
set_option linter.unusedSimpArgs false
set_option linter.unusedVariables false
open Go.RowKit
variable {K:St->Prop} {O:St} {P:Program} {Q:Exit->Act->World->Prop} {S:Nat->St} {U:Nat->Prop} {a:Act} {c:Cx} {d i id j k:Nat} {kp:Bool} {n:Nat} {o:Oper} {op:NB} {ops:Array Oper} {p:Prop} {pre:List SO} {r:Array Bool} {s s':Nat->SV} {so:SO} {sos:List SO} {t:Nat} {v:SV} {w:World} {z:Nat->SV} {κ:Nat->Value} {π:List Nat} {σ:St} {φ:Nat->List Nat}
def Gv:NB->List SX
 | .boxM x=>[x]
 | .st _ p v=>[p,v]
 | .app _ _ x y=>[x,y]
 | .appS _ x y=>[x,y]
 | .mkmap _=>[]
 | .mset _ m k v=>[m,k,v]
 | .trunc _ x hi=>[x,hi]
 | .slM _ _ xs=>xs
 | .bldM _ _=>[]
def pS (d:Nat):NB->Option Nat
 | .st _ _ _=>none
 | .mset _ _ _ _=>none
 |_=>some d
def yF:SO->Bool
 | .x _ _ _=>true
 | .q _ _ _ _=>true
 |_=>false
def bF:SO->Option Nat
 | .x d op _=>pS d op
 | .q d _ _ _=>some d
 |so=>iU so
def SM:SO->List SX
 | .x _ op _=>Gv op
 | .q _ f args _=>f::args
 |so=>Jq so
def Pe (so:SO):Bool:=yF so||(iU so).isSome
open Classical in
noncomputable def nh (z:Nat->SV) (U:Nat->Prop) (s:Nat->SV):Nat->SV:=fun t=>if U t then z t else s t
theorem fg (h:¬ U t):nh z U s t=s t:=by unfold nh;simp[h]
theorem lD (h:U t):nh z U s t=z t:=by unfold nh;simp[h]
theorem C3 (h:∀ t,¬ U t->s t=s' t):nh z U s=nh z U s':=by
 funext t
 by_cases hu:U t
 ·rw[lD hu,lD hu]
 ·rw[fg hu,fg hu,h t hu]
theorem lE {x:SX} (h:∀ t,x= .t t->¬ U t):ev (nh z U s) x=ev s x:=by
 cases x with
 |t n=>exact fg (h n rfl)
 |c v=>rfl
 |f i=>rfl
theorem i_ (hz:∀ i t,c8 i .any (z t)=z t):am (bl id .any (nh z U s)) d v=nh z (fun t=>U t/\t≠d) (am (bl id .any s) d v):=by
 funext t
 by_cases ht:t=d
 ·subst ht;rw[ar,fg oS,ar]
 ·rw[aY _ _ _ _ ht]
  by_cases hu:U t
  ·rw[lD (U:=fun t=>U t/\t≠d) ⟨hu,ht⟩];simp[bl,lD hu,hz]
  ·rw[fg (U:=fun t=>U t/\t≠d) (fun h=>hu h.1),aY _ _ _ _ ht];simp[bl,fg hu]
noncomputable def er (U:Nat->Prop) (s:Nat->SV):Nat->SV:=nh (fun _=> .d .any) U s
theorem AH (h:¬ U t):er U s t=s t:=fg h
theorem LB (h:U t):er U s t= .d .any:=lD h
theorem LC (h:∀ t,¬ U t->s t=s' t):er U s=er U s':=C3 h
theorem LD (hz:∀ i t,c8 i .any (z t)=z t) (h:wr σ d op=some (p,O)) (hx:∀ x∈Gv op,∀ t,x= .t t->¬ U t):
  wr ⟨nh z U σ.s,σ.h⟩ d op=some (p,⟨nh z (fun t=>U t/\pS d op≠some t) O.s,O.h⟩):=by
 have a:∀ s:Nat->SV,nh z (fun t=>U t/\(none:Option Nat)≠some t) s=nh z U s:=fun s=>by congr 1;funext t;simp
 have one:∀ s:Nat->SV,nh z (fun t=>U t/\(some d:Option Nat)≠some t) s=nh z (fun t=>U t/\t≠d) s:=fun s=>by
  congr 1;funext t;simp only[ne_eq,SN,eq_comm]
 cases op with
 |boxM x=>
  have h1:=lE (z:=z) (s:=σ.s) (hx x (by simp[Gv]))
  simp only[wr,pS,h1,one] at h⊢
  split at h
  ·simp only[SN,SU] at h
   obtain⟨rfl,rfl⟩:=h
   simp only[St.swap,i_ hz]
  ·cases h
 |st n x y=>
  have h1:=lE (z:=z) (s:=σ.s) (hx x (by simp[Gv]))
  have h2:=lE (z:=z) (s:=σ.s) (hx y (by simp[Gv]))
  simp only[wr,pS,h1,h2,a] at h⊢
  split at h
  ·split at h
   ·rename_i E h4
    simp only[SN,SU] at h
    obtain⟨rfl,rfl⟩:=h
    simp only
   ·cases h
  ·split at h
   ·split at h
    ·rename_i h5
     simp only[SN,SU] at h
     obtain⟨rfl,rfl⟩:=h
     simp only
    ·cases h
   ·cases h
  ·cases h
 |app e sz x y=>
  have h1:=lE (z:=z) (s:=σ.s) (hx x (by simp[Gv]))
  have h2:=lE (z:=z) (s:=σ.s) (hx y (by simp[Gv]))
  simp only[wr,pS,h1,h2,one] at h⊢
  split at h
  ·split at h
   ·simp only[SN,SU] at h
    obtain⟨rfl,rfl⟩:=h
    simp only[cy,St.swap,i_ hz]
   ·cases h
  ·simp only[SN,SU] at h
   obtain⟨rfl,rfl⟩:=h
   simp only[cy,St.swap,i_ hz]
  ·simp only[SN,SU] at h
   obtain⟨rfl,rfl⟩:=h
   simp only[cy,St.swap,i_ hz]
  ·cases h
 |appS e x y=>
  have h1:=lE (z:=z) (s:=σ.s) (hx x (by simp[Gv]))
  have h2:=lE (z:=z) (s:=σ.s) (hx y (by simp[Gv]))
  simp only[wr,pS,h1,h2,one] at h⊢
  split at h
  ·split at h
   ·simp only[SN,SU] at h
    obtain⟨rfl,rfl⟩:=h
    simp only[cy,St.swap,i_ hz]
   ·cases h
  ·simp only[SN,SU] at h
   obtain⟨rfl,rfl⟩:=h
   simp only[cy,St.swap,i_ hz]
  ·cases h
 |bldM T e=>
  simp only[wr,pS,one,SN,SU] at h⊢
  obtain⟨rfl,rfl⟩:=h
  simp only[St.swap,i_ hz,and_self]
 |mkmap kk=>
  simp only[wr,pS,one,SN,SU] at h⊢
  obtain⟨rfl,rfl⟩:=h
  simp only[St.swap,i_ hz,and_self]
 |mset kk m k v=>
  have h1:=lE (z:=z) (s:=σ.s) (hx m (by simp[Gv]))
  have h2:=lE (z:=z) (s:=σ.s) (hx k (by simp[Gv]))
  have E:=lE (z:=z) (s:=σ.s) (hx v (by simp[Gv]))
  simp only[wr,pS,h1,h2,E,a] at h⊢
  split at h
  ·split at h
   ·simp only[SN,SU] at h
    obtain⟨rfl,rfl⟩:=h
    simp only
   ·cases h
  ·cases h
 |slM e sz xs=>
  have h1:xs.map (ev (nh z U σ.s))=xs.map (ev σ.s):=TR fun x H=>lE (hx x (by simpa only[Gv] using H))
  simp only[wr,pS,h1,one] at h⊢
  split at h
  ·simp only[SN,SU] at h
   obtain⟨rfl,rfl⟩:=h
   simp only[cy,St.swap,i_ hz]
  ·cases h
 |trunc sz x hi=>
  have h1:=lE (z:=z) (s:=σ.s) (hx x (by simp[Gv]))
  have h2:=lE (z:=z) (s:=σ.s) (hx hi (by simp[Gv]))
  simp only[wr,pS,h1,h2,one] at h⊢
  split at h
  ·split at h
   ·simp only[SN,SU] at h
    obtain⟨rfl,rfl⟩:=h
    simp only[cy,St.swap,i_ hz]
   ·cases h
  ·cases h
theorem FM (hz:∀ i t,c8 i .any (z t)=z t) {res:SV} (h:takes σ [] (some d) res=some O):takes ⟨nh z U σ.s,σ.h⟩ [] (some d) res=some ⟨nh z (fun t=>U t/\(some d:Option Nat)≠some t) O.s,O.h⟩:=by
 have one:∀ s:Nat->SV,nh z (fun t=>U t/\(some d:Option Nat)≠some t) s=nh z (fun t=>U t/\t≠d) s:=fun s=>by
  congr 1;funext t;simp only[ne_eq,SN,eq_comm]
 have a:∀ (s:Nat->SV) (v:SV),am (nh z U s) d v=nh z (fun t=>U t/\t≠d) (am s d v):=fun s v=>by
  funext t
  by_cases ht:t=d
  ·subst ht;rw[ar,fg oS,ar]
  ·rw[aY _ _ _ _ ht]
   by_cases hu:U t
   ·rw[lD (U:=fun t=>U t/\t≠d) ⟨hu,ht⟩,lD hu]
   ·rw[fg (U:=fun t=>U t/\t≠d) (fun h=>hu h.1),aY _ _ _ _ ht,fg hu]
 unfold takes at h⊢
 simp only at h⊢
 split at h
 ·rename_i h0
  simp only[SN] at h;subst h
  rw[U4 h0,one,a]
 ·rename_i h0
  rw[if_neg h0]
  split at h
  ·rename_i h1
   rw[U4 h1]
   split at h
   ·rename_i m v ho
    split at h
    ·rename_i ch mk s3
     simp only[SN] at h;subst h
     simp only[ho,s3,one,i_ hz]
    ·cases h
   ·cases h
  ·cases h
section
variable {σ:St}
theorem pT (hs:∀ i,O.s i=σ.s i\/O.s i= .d .any) (hh:∀ i,O.h i=σ.h i\/O.h i= .dead):bm σ O:=fun c κ φ a w D=>by
 classical
 refine⟨κ,fun i=>if O.h i=σ.h i then φ i else[], ?_⟩
 have f:∀ i b,b∈(if O.h i=σ.h i then φ i else[])->b∈φ i:=fun i b hb=>by
  split at hb
  ·exact hb
  ·simp at hb
 have Q:jE w (own c φ) w (own c fun i=>if O.h i=σ.h i then φ i else[]):=jE.shrink fun b hb=>by
  rcases hb with hb|⟨i,hb⟩
  ·exact .inl hb
  ·exact .inr ⟨i,f i b hb⟩
 have w0:∀ i v,ai w (own c φ) κ (σ.s i) v->ai w (own c fun i=>if O.h i=σ.h i then φ i else[]) κ (O.s i) v:=fun i v hv=>by
  rcases hs i with h|h
  ·rw[h];exact hv.ext Q
  ·rw[h];simp only[ai];unfold aW;trivial
 refine⟨D.chg,D.size,D.m0,D.ntmps,D.defers,D.kok,fun i hi=>w0 i _ (D.slots i hi),fun i v hv=>w0 _ v (D.ghost i v hv),fun i=> ?_,fun i b hb=>D.mine i b (f i b hb),fun i=> ?_,fun i j b r0 hi hj=>D.sep i j b r0 (f i b hi) (f j b hj)⟩
 ·by_cases h:O.h i=σ.h i
  ·simp only[h,TB];exact(D.chunks i).ext Q (fun _ _=>rfl)
  ·rcases hh i with h'|h'
   ·exact absurd h' h
   ·simp only[h,Tq];rw[h'];rfl
 ·split
  ·exact D.nod i
  ·simp
end
def JG (P:Program) (so:SO) (σ O:St):Prop:=
 match so with
 | .x d op late=>∃ p,wr σ d op=some (p,O)/\p/\oQ O late
 | .q d f args late=>∃ F as res,ev σ.s f= .d (.fn F [])/\SV.toDVs (args.map (ev σ.s))=some as/\bu P F (as.map .d) res (as.map .d)/\res.closed=true/\takes σ [] (some d) res=some O/\oQ O late
 |so=>∃ d v,iU so=some d/\YS P σ.h so σ.s v/\O=⟨am σ.s d v,σ.h⟩
theorem wo (hx:yF so=false) (h:JG P so σ O):∃ d v,iU so=some d/\YS P σ.h so σ.s v/\O=⟨am σ.s d v,σ.h⟩:=by
 cases so<;>first|exact h|simp[yF] at hx
theorem P5 (r5:Pe so=true) (h:AO P so σ K):∃ O,JG P so σ O/\K O:=by
 by_cases hx:yF so=true
 ·cases so<;>simp[yF] at hx
  ·rename_i d op late
   simp only[AO] at h
   split at h
   ·rename_i p O G;exact⟨O,⟨p,G,h.1,h.2.1⟩,h.2.2⟩
   ·exact h.elim
  ·rename_i d f args late
   obtain⟨F,as,res,O,h1,h2,E,h4,h5,h6,h7⟩:=h
   exact⟨O,⟨F,as,res,h1,h2,E,h4,h5,h6⟩,h7⟩
 ·simp only[Uh] at hx
  simp only[Pe,hx,T7,T0] at r5
  obtain⟨d,hd⟩:=r5
  obtain⟨v,hv,hk⟩:=Ft hd h
  refine⟨_, ?_,hk⟩
  cases so<;>first|exact⟨d,v,hd,hv,rfl⟩|simp[yF] at hx
theorem zx {P:Program} {K:St->Prop}:∀ (sos:List SO) (σ:St),(∀ so∈sos,Pe so=true)->aD P K sos σ->∃ S:Nat->St,S 0=σ/\(∀ (j:Nat) (so:SO),sos[j]?=some so->JG P so (S j) (S (j+1)))/\K (S sos.length)
 |[],σ,_,h=>⟨fun _=>σ,rfl,by simp,h⟩
 |so::sos,σ,r5,h=>by
  simp only[aD] at h
  obtain⟨O,h1,h2⟩:=P5 (r5 so oS) h
  obtain⟨S,E,h4,h5⟩:=zx sos O (fun s hs=>r5 s (by simp[hs])) h2
  refine⟨fun j=>match j with|0=>σ|j+1=>S j,rfl,fun j s hj=> ?_,by simpa using h5⟩
  cases j with
  |zero=>simp at hj;subst hj;simpa[E] using h1
  |succ j=>exact h4 j s (by simpa using hj)
mutual
theorem FN (id:Nat):∀ v:SV,(c8 id .any v).firm=true->c8 id .any v=v
 | .d v,_=>rfl
 | .nils,_=>rfl
 | .lit sz n cs,h=>by
  simp only[c8,SV.firm] at h⊢
  rw[xB id cs h]
 | .agg cs,h=>by
  simp only[c8,SV.firm] at h⊢
  rw[xB id cs h]
 | .tup cs,h=>by simp[c8,SV.firm] at h
 | .ref i off,h=>by
  by_cases hi:i=id
  ·simp[c8,hi,SV.firm] at h
  ·simp[c8,hi]
 | .vec i,h=>by
  by_cases hi:i=id
  ·simp[c8,hi,SV.firm] at h
  ·simp[c8,hi]
 | .vref i a b off,h=>by
  by_cases hi:i=id
  ·simp[c8,hi,SV.firm] at h
  ·simp[c8,hi]
 | .mp i,h=>by
  by_cases hi:i=id
  ·simp[c8,hi,SV.firm] at h
  ·simp[c8,hi]
 | .own m v,_=>rfl
theorem xB (id:Nat):∀ l:List SV,SV.firms (cm id .any l)=true->cm id .any l=l
 |[],_=>rfl
 |c::cs,h=>by
  simp only[cm,SV.firms,SR] at h⊢
  rw[FN id c h.1,xB id cs h.2]
end
mutual
theorem xC (id:Nat):∀ v:SV,v.firm=true->c8 id .any v=v
 | .d v,_=>rfl
 | .nils,_=>rfl
 | .lit sz n cs,h=>by
  simp only[c8,SV.firm] at h⊢
  rw[vo id cs h]
 | .agg cs,h=>by
  simp only[c8,SV.firm] at h⊢
  rw[vo id cs h]
 | .tup cs,h=>by simp[SV.firm] at h
 | .ref i off,h=>by simp[SV.firm] at h
 | .vec i,h=>by simp[SV.firm] at h
 | .vref i a b off,h=>by simp[SV.firm] at h
 | .mp i,h=>by simp[SV.firm] at h
 | .own m v,h=>by simp[SV.firm] at h
theorem vo (id:Nat):∀ l:List SV,SV.firms l=true->cm id .any l=l
 |[],_=>rfl
 |c::cs,h=>by
  simp only[SV.firms,SR] at h
  simp only[cm]
  rw[xC id c h.1,vo id cs h.2]
end
def oh (s:Nat->SV):Nat->SV:=fun t=>if(s t).firm=true then s t else .d .any
theorem JH (s:Nat->SV) (i t:Nat):c8 i .any (oh s t)=oh s t:=by
 unfold oh
 split
 ·rename_i h;exact xC i _ h
 ·rfl
theorem FO (s:Nat->SV) (t:Nat):oh s t= .d .any\/(oh s t=s t/\(s t).firm=true):=by
 unfold oh
 split
 ·rename_i h;exact .inr ⟨rfl,h⟩
 ·exact .inl rfl
theorem FP (s:Nat->SV) (U:Nat->Prop) (t:Nat):nh (oh s) U s t=s t\/nh (oh s) U s t= .d .any:=by
 by_cases h:U t
 ·rw[lD h]
  rcases FO s t with h|h
  ·exact .inr h
  ·exact .inl h.1
 ·exact .inl (fg h)
def sL:oX->Bool
 | .sslc _ _ _=>true
 |_=>false
def Ih:SO->Bool
 | .r _ op=>sL op
 |_=>false
def RM:SO->Bool
 | .r _ _=>true
 |_=>false
def C4 (n:Nat):List (Nat×Nat×oX)->Bool
 |[]=>false
 |(_,_,.cl _ [n'])::l=>n'==n||C4 n l
 |_::l=>C4 n l
def AJ (op:oX) (l:List (Nat×Nat×oX)):Bool:=
 match op with
 | .mv (.t n)=>C4 n l
 |_=>false
theorem FQ {a:Option Int} (h:zu s (some (.t n))=some a):(s n).firm=true:=by
 simp only[zu,ev] at h
 split at h
 ·rename_i h1;rw[h1];rfl
 ·cases h
theorem Ii {h:Nat->Ch} {op:oX} (D:rd h s op=some (p,v)) (C:sL op=true) (hn: .t n∈pC op):(s n).firm=true:=by
 cases op<;>simp only[sL,Tb] at C
 rename_i x lo hi
 simp only[rd] at D
 split at D
 ·rename_i l a b h1 h2 E
  simp only[pC,Tf,Te,Option.mem_toList,Option.mem_def] at hn
  rcases hn with rfl|rfl|rfl
  ·have:s n= .d (.str l):=h1
   rw[this];rfl
  ·exact FQ h2
  ·exact FQ E
 ·cases D
mutual
theorem C5:∀ v:SV,v.firm=true->∃ d,v.toDV=some d
 | .d v,_=>⟨v,rfl⟩
 | .nils,_=>⟨_,rfl⟩
 | .lit sz n cs,h=>by
  obtain⟨J,hd⟩:=sM cs (by simpa only[SV.firm] using h)
  exact⟨_,by simp only[SV.toDV,hd];rfl⟩
 | .agg cs,h=>by
  obtain⟨J,hd⟩:=sM cs (by simpa only[SV.firm] using h)
  exact⟨_,by simp only[SV.toDV,hd];rfl⟩
 | .tup cs,h=>by simp[SV.firm] at h
 | .ref i off,h=>by simp[SV.firm] at h
 | .vec i,h=>by simp[SV.firm] at h
 | .vref i a b off,h=>by simp[SV.firm] at h
 | .mp i,h=>by simp[SV.firm] at h
 | .own m v,h=>by simp[SV.firm] at h
theorem sM:∀ l:List SV,SV.firms l=true->∃ J,SV.toDVs l=some J
 |[],_=>⟨[],rfl⟩
 |c::cs,h=>by
  simp only[SV.firms,SR] at h
  obtain⟨d,hd⟩:=C5 c h.1
  obtain⟨J,r6⟩:=sM cs h.2
  exact⟨d::J,by simp only[SV.toDVs,hd,r6]⟩
end
theorem yG {s:Nat->SV}:∀ {l:List Nat},ly s l=true->∀ n∈l,(s n).firm=true
 |[],_,n,hn=>by cases hn
 |m::l,h,n,hn=>by
  simp only[ly,SR] at h
  rcases Tf.1 hn with rfl|hn
  ·exact h.1
  ·exact yG h.2 n hn
theorem LE (h:wr σ d op=some (p,O)) (hn:pS d op≠some n):O.s n=σ.s n\/∃ id,O.s n=c8 id .any (σ.s n):=by
 have a:∀ (id e sz:Nat) (rows:List (List SV)),d≠n->(cy σ d id e sz rows).s n=c8 id .any (σ.s n):=fun id e sz rows hd=>by
  simp only[cy,am,bl];rw[if_neg (Ne.symm hd)]
 cases op with
 |boxM x=>
  have hd:d≠n:=fun e=>hn (by simp[pS,e])
  simp only[wr] at h
  split at h
  ·simp only[SN,SU] at h
   obtain⟨rfl,rfl⟩:=h
   exact .inr ⟨d,by simp only[am,bl];rw[if_neg (Ne.symm hd)]⟩
  ·cases h
 |st k x y=>
  simp only[wr] at h
  split at h
  ·split at h
   ·simp only[SN,SU] at h
    obtain⟨rfl,rfl⟩:=h
    exact .inl rfl
   ·cases h
  ·split at h
   ·split at h
    ·simp only[SN,SU] at h
     obtain⟨rfl,rfl⟩:=h
     exact .inl rfl
    ·cases h
   ·cases h
  ·cases h
 |app e sz x y=>
  have hd:d≠n:=fun e=>hn (by simp[pS,e])
  simp only[wr] at h
  split at h
  ·split at h
   ·simp only[SN,SU] at h
    obtain⟨rfl,rfl⟩:=h
    exact .inr ⟨_,a _ _ _ _ hd⟩
   ·cases h
  ·simp only[SN,SU] at h
   obtain⟨rfl,rfl⟩:=h
   exact .inr ⟨_,a _ _ _ _ hd⟩
  ·simp only[SN,SU] at h
   obtain⟨rfl,rfl⟩:=h
   exact .inr ⟨_,a _ _ _ _ hd⟩
  ·cases h
 |appS e x y=>
  have hd:d≠n:=fun e=>hn (by simp[pS,e])
  simp only[wr] at h
  split at h
  ·split at h
   ·simp only[SN,SU] at h
    obtain⟨rfl,rfl⟩:=h
    exact .inr ⟨_,a _ _ _ _ hd⟩
   ·cases h
  ·simp only[SN,SU] at h
   obtain⟨rfl,rfl⟩:=h
   exact .inr ⟨_,a _ _ _ _ hd⟩
  ·cases h
 |bldM T e'=>
  have hd:d≠n:=fun e=>hn (by simp[pS,e])
  simp only[wr,SN,SU] at h
  obtain⟨rfl,rfl⟩:=h
  exact .inr ⟨d,by simp only[am,bl];rw[if_neg (Ne.symm hd)]⟩
 |mkmap kk=>
  have hd:d≠n:=fun e=>hn (by simp[pS,e])
  simp only[wr,SN,SU] at h
  obtain⟨rfl,rfl⟩:=h
  exact .inr ⟨d,by simp only[am,bl];rw[if_neg (Ne.symm hd)]⟩
 |mset kk m k v=>
  simp only[wr] at h
  split at h
  ·split at h
   ·simp only[SN,SU] at h
    obtain⟨rfl,rfl⟩:=h
    exact .inl rfl
   ·cases h
  ·cases h
 |slM e sz xs=>
  have hd:d≠n:=fun e=>hn (by simp[pS,e])
  simp only[wr] at h
  split at h
  ·simp only[SN,SU] at h
   obtain⟨rfl,rfl⟩:=h
   exact .inr ⟨_,a _ _ _ _ hd⟩
  ·cases h
 |trunc sz x hi=>
  have hd:d≠n:=fun e=>hn (by simp[pS,e])
  simp only[wr] at h
  split at h
  ·split at h
   ·simp only[SN,SU] at h
    obtain⟨rfl,rfl⟩:=h
    exact .inr ⟨_,a _ _ _ _ hd⟩
   ·cases h
  ·cases h
theorem xD (h:JG P so σ O) (hn:bF so≠some n):O.s n=σ.s n\/∃ id,O.s n=c8 id .any (σ.s n):=by
 by_cases hx:yF so=true
 ·cases so<;>simp[yF] at hx
  ·obtain⟨p,G,_,_⟩:=h
   exact LE G hn
  ·rename_i d f args late
   obtain⟨F,as,res,_,_,_,_,ht,_⟩:=h
   have hd:d≠n:=fun e=>hn (by simp[bF,e])
   simp only[takes] at ht
   split at ht
   ·simp only[SN] at ht;subst ht
    exact .inl (by simp only[am];rw[if_neg (Ne.symm hd)])
   ·split at ht
    ·split at ht
     ·split at ht
      ·simp only[SN] at ht;subst ht
       exact .inr ⟨d,by simp only[am,bl];rw[if_neg (Ne.symm hd)]⟩
      ·cases ht
     ·cases ht
    ·cases ht
 ·simp only[Uh] at hx
  obtain⟨d,v,hd,_,rfl⟩:=wo hx h
  have w5:bF so=some d:=by cases so<;>first|exact hd|simp[yF] at hx
  have:n≠d:=fun e=>hn (by rw[w5,e])
  exact .inl (by simp only[am];rw[if_neg this])
theorem AK (hS:∀ (j:Nat) (so:SO),sos[j]?=some so->JG P so (S j) (S (j+1))) {a:Nat}:∀ b,a<=b->b<=sos.length->(∀ i,a<=i->i<b->(sos.map bF)[i]?≠some (some n))->((S b).s n).firm=true->(S a).s n=(S b).s n:=by
 intro b g hb hn C
 induction b with
 |zero=>
      obtain rfl:a=0:=by omega
      rfl
 |succ b ih=>
  by_cases f:a=b+1
  ·rw[f]
  obtain⟨so,B⟩:∃ so,sos[b]?=some so:=⟨_,S0 oM⟩
  have hd:bF so≠some n:=fun e=>hn b oM oM (by simp[B,e])
  have h1:(S (b+1)).s n=(S b).s n:=by
   rcases xD (hS b so B) hd with h|⟨id,h⟩
   ·exact h
   ·rw[h] at C⊢;exact FN id _ C
  rw[h1] at C⊢
  exact ih oM oM (fun i hi h5=>hn i hi oM) C
theorem NV (hS:∀ (j:Nat) (so:SO),sos[j]?=some so->JG P so (S j) (S (j+1))) {a:Nat} {v:DV} (hv:(S a).s n= .d v):∀ b,a<=b->b<=sos.length->(∀ i,a<=i->i<b->(sos.map bF)[i]?≠some (some n))->(S b).s n= .d v:=by
 intro b g hb hn
 induction b with
 |zero=>
      obtain rfl:a=0:=by omega
      exact hv
 |succ b ih=>
  by_cases f:a=b+1
  ·rw[<-f];exact hv
  obtain⟨so,B⟩:∃ so,sos[b]?=some so:=⟨_,S0 oM⟩
  have hd:bF so≠some n:=fun e=>hn b oM oM (by simp[B,e])
  have h0:=ih oM oM (fun i hi h5=>hn i hi oM)
  rcases xD (hS b so B) hd with h|⟨id,h⟩
  ·rw[h,h0]
  ·rw[h,h0];rfl
theorem LF (hS:∀ (j:Nat) (so:SO),sos[j]?=some so->JG P so (S j) (S (j+1))) {a:Nat} (hv:((S a).s n).firm=true):∀ b,a<=b->b<=sos.length->(∀ i,a<=i->i<b->(sos.map bF)[i]?≠some (some n))->(S b).s n=(S a).s n:=by
 intro b g hb hn
 induction b with
 |zero=>
      obtain rfl:a=0:=by omega
      rfl
 |succ b ih=>
  by_cases f:a=b+1
  ·rw[<-f]
  obtain⟨so,B⟩:∃ so,sos[b]?=some so:=⟨_,S0 oM⟩
  have hd:bF so≠some n:=fun e=>hn b oM oM (by simp[B,e])
  have h0:=ih oM oM (fun i hi h5=>hn i hi oM)
  rcases xD (hS b so B) hd with h|⟨id,h⟩
  ·rw[h,h0]
  ·rw[h,h0];exact xC id _ hv
def AL (sos:List SO) (a:Nat):List (Nat×Nat×oX)->Bool
 |[]=>false
 |(a',d,.cl t ts)::l=>(a'==a&&t==d&&(match sos[a]? with
  |some (.c d' (.f _) args)=>d'==d&&args.all (fun x=>match x with| .t n=>ts.contains n| .c v=>v.toDV.isSome| .f _=>false)
  |_=>false))||AL sos a l
 |_::l=>AL sos a l
def fX (sos:List SO) (i:Nat):Bool:=match sos[i]? with|some so=>yF so|none=>false
def pU (kp fo fw:Bool) (all:Array Oper) (sos:List SO) (g:List (Option Nat)) (j:Nat) (o:Oper) (xs:List SX):Bool:=
 (H6 xs).all fun t=>(List.range g.length).all fun b=>g[b]? !=some (some t)||(decide (b<j)&&o.after.any (fun e=>Region.binds .any e&&e.on==b))||
  ((List.range b).any fun p=>decide (j<=p)&&fX sos p&&(p==j||rX all j p [p]))||
  (kp&&fo&&decide (j<b)&&rX all j b [b]&&((List.range sos.length).all fun p=> !fX sos p||decide (p<b)||rX all j p [p])&&(fw||(List.range b).any fun p=>decide (j<=p)&&fX sos p))
def AM (kp:Bool) (f:List (Nat×Nat×oX)) (P:Program) (N:Nat) (all:Array Oper) (sos:List SO) (g:List (Option Nat)) (a:Nat):List (Nat×Nat×oX)->Bool
 |[]=>false
 |(a',d,op)::l=>(a'==a&&g[a]?==some (some d)&&(match all[a]? with
  |some o=>(match op with
   | .gd t want b=>kr P N all o (.g t want (some d) (.r d b))&&pU kp (sL b||AJ b f) true all sos g a o (.t t::pC b)
   |op=>o.guard==none&&e6 P N o (.r d op)&&pU kp (sL op||AJ op f) true all sos g a o (pC op))
  |none=>false))||AM kp f P N all sos g a l
def xE:SO->List (Nat×Nat×oX)
 | .x _ _ l=>l
 | .q _ _ _ l=>l
 |_=>[]
def sN (kp:Bool) (P:Program) (N:Nat) (all:Array Oper) (sos:List SO) (g:List (Option Nat)) (j:Nat) (o:Oper) (so:SO):Bool:=
 Pe so&&o.after.all (fun e=> !Region.binds .any e||decide (e.on<j))&&pU kp (RM so) (Ih so) all sos g j o (SM so)&&
 (List.range g.length).all (fun b=>b==j||g[b]? !=g[j]?||g[j]?==some none)&&
 (List.range j).all (fun p=>match sos[p]? with
  |some sp=>if yF sp then rX all p j [j] else(!yF so||rX all p j [j]||AM kp (xE so) P N all sos g p (xE so)||AL sos p (xE so))
  |none=>false)
def vp (kp:Bool) (P:Program) (N:Nat) (all:Array Oper) (sos:List SO) (g:List (Option Nat)):Nat->List Oper->List SO->Bool
 |_,[],[]=>true
 |j,o::ops,so::l=>sN kp P N all sos g j o so&&vp kp P N all sos g (j+1) ops l
 |_,_,_=>false
abbrev JI:=vp false
theorem pV {kp:Bool} {P:Program} {N:Nat} {all:Array Oper} {sos:List SO} {g:List (Option Nat)}:∀ {ops:List Oper} {l:List SO} {k:Nat},vp kp P N all sos g k ops l=true->∀ (j:Nat) (o:Oper) (so:SO),ops[j]?=some o->l[j]?=some so->sN kp P N all sos g (k+j) o so=true
 |[],[],k,h,j,o,so,ho,hs=>by simp at ho
 |o'::ops,H::l,k,h,j,o,so,ho,hs=>by
  simp only[vp,SR] at h
  cases j with
  |zero=>simp at ho hs;subst ho hs;exact h.1
  |succ j=>
   have:=pV h.2 j o so (by simpa using ho) (by simpa using hs)
   rw[show k+(j+1)=k+1+j by omega];exact this
 |[],_::_,k,h,_,_,_,_,_=>by simp[vp] at h
 |_::_,[],k,h,_,_,_,_,_=>by simp[vp] at h
theorem re {fo fw:Bool} {all:Array Oper} {g:List (Option Nat)} {xs:List SX} (h:pU kp fo fw all sos g j o xs=true) (ht: .t t∈xs) {b:Nat} (hb:g[b]?=some (some t)):
  (b<j/\∃ e∈o.after,Region.binds .any e=true/\e.on=b)\/(∃ p,p<b/\j<=p/\fX sos p=true/\(p=j\/rX all j p [p]=true))\/
   (kp=true/\fo=true/\j<b/\rX all j b [b]=true/\(fw=true\/∃ p,j<=p/\p<b/\fX sos p=true)/\∀ p,p<sos.length->fX sos p=true->p<b\/rX all j p [p]=true):=by
 have h1:=Ti.1 h t (List.mem_filterMap.2 ⟨.t t,ht,rfl⟩)
 have h2:=Ti.1 h1 b (TN.2 (SY.1 hb).1)
 simp only[hb,bne_self_eq_false,T7,TE,SR,S5] at h2
 rcases h2 with(h2|h2)|h2
 ·obtain⟨e,he,h6⟩:=Array.any_eq_true'.1 h2.2
  simp only[SR,S_] at h6
  exact .inl ⟨h2.1,e,he,h6.1,h6.2⟩
 ·obtain⟨p,Y,m⟩:=UM.1 h2
  simp only[SR,TE,S5,S_] at m
  exact .inr (.inl ⟨p,TN.1 Y,m.1.1,m.1.2,m.2⟩)
 ·obtain⟨⟨⟨⟨⟨k1,k2⟩,k3⟩,k4⟩,k5⟩,k6⟩:=h2
  refine .inr (.inr ⟨k1,k2,k3,k4, ?_,fun p Y hx=> ?_⟩)
  ·rcases k6 with k6|k6
   ·exact .inl k6
   ·obtain⟨p,Y,m⟩:=UM.1 k6
    simp only[SR,S5] at m
    exact .inr ⟨p,m.1,TN.1 Y,m.2⟩
  have:=Ti.1 k5 p (TN.2 Y)
  simpa[hx] using this
theorem vq {σ:St} {n:Nat}:∀ {l:List (Nat×Nat×oX)},C4 n l=true->oQ σ l->(σ.s n).firm=true
 |[],h,_=>by simp[C4] at h
 |(a,d,op)::l,h,D=>by
  simp only[oQ] at D
  unfold C4 at h
  split at h
  ·cases h
  ·rename_i B
   simp only[TG,SU] at B
   obtain⟨⟨rfl,rfl,rfl⟩,rfl⟩:=B
   simp only[TE,S_] at h
   rcases h with rfl|h
   ·have h0:=D.1
    simp only[Pa,rd] at h0
    split at h0
    ·rename_i u4
     split at u4
     ·rename_i b;simpa[ly] using b
     ·cases u4
    ·exact h0.elim
   ·exact vq h D.2
  ·rename_i B
   simp only[TG] at B
   obtain⟨rfl,rfl⟩:=B
   exact vq h D.2
theorem He {op:oX} {l:List (Nat×Nat×oX)} (h:AJ op l=true) (D:oQ σ l) (hn: .t n∈pC op):(σ.s n).firm=true:=by
 unfold AJ at h
 split at h
 ·simp only[pC,Tj,SX.t.injEq] at hn
  subst hn
  exact vq h D
 ·cases h
theorem NW {a b:Bool} (h:¬ a=b):a= !b:=by cases a<;>cases b<;>first|rfl|exact absurd rfl h
theorem yH {kp:Bool} {f:List (Nat×Nat×oX)} {P:Program} {N:Nat} {all:Array Oper} {sos:List SO} {g:List (Option Nat)} {a:Nat} {σ:St}:∀ {l:List (Nat×Nat×oX)},AM kp f P N all sos g a l=true->oQ σ l->
  ∃ d op o,g[a]?=some (some d)/\all[a]?=some o/\
   ((o.guard=none/\e6 P N o (.r d op)=true/\pU kp (sL op||AJ op f) true all sos g a o (pC op)=true/\∃ p,rd σ.h σ.s op=some (p,σ.s d)/\p)\/
    (∃ t want,kr P N all o (.g t want (some d) (.r d op))=true/\pU kp (sL op||AJ op f) true all sos g a o (.t t::pC op)=true/\∃ p,Pa σ.h σ.s (.gd t want op)=some (p,σ.s d)/\p))
 |[],h,_=>by simp[AM] at h
 |(a',d,op)::l,h,D=>by
  simp only[AM,TE,SR,S_] at h
  simp only[oQ] at D
  rcases h with⟨⟨rfl,h1⟩,h2⟩|h
  ·split at h2
   ·rename_i o ho
    obtain⟨q,_⟩:=D
    split at q
    ·rename_i p v A
     obtain⟨Y,rfl⟩:=q
     split at h2
     ·rename_i t want b
      simp only[SR] at h2
      exact⟨d,b,o,h1,ho,.inr ⟨t,want,h2.1,h2.2,p,A,Y⟩⟩
     ·rename_i i
      simp only[SR,S_] at h2
      have e:rd σ.h σ.s op=some (p,σ.s d):=by
       cases op<;>first|exact A|exact absurd rfl (i _ _ _)
      exact⟨d,op,o,h1,ho,.inl ⟨h2.1.1,h2.1.2,h2.2,p,e,Y⟩⟩
    ·exact q.elim
   ·cases h2
  ·exact yH h D.2
theorem vr {sos:List SO} {a:Nat} {σ:St}:∀ {l:List (Nat×Nat×oX)},AL sos a l=true->oQ σ l->∃ d F args ts,sos[a]?=some (.c d (.f F) args)/\(∀ x∈args,(∃ n,x= .t n/\n∈ts)\/∃ v,x= .c v/\v.toDV.isSome=true)/\ly σ.s ts=true
 |[],h,_=>by simp[AL] at h
 |(a',d,op)::l,h,D=>by
  simp only[oQ] at D
  cases op with
  |cl t ts=>
   simp only[AL,TE,SR,S_] at h
   rcases h with⟨_,h⟩|h
   ·split at h
    ·rename_i d' F args hs
     simp only[SR,S_,Ti] at h
     refine⟨d',F,args,ts,hs,fun x hx=> ?_, ?_⟩
     ·have:=h.2 x hx
      cases x with
      |t n=>exact .inl ⟨n,rfl,by simpa using this⟩
      |c v=>exact .inr ⟨v,rfl,this⟩
      |f i=>cases this
     ·have h0:=D.1
      simp only[Pa,rd] at h0
      by_cases C:ly σ.s ts=true
      ·exact C
      ·simp[C] at h0
    ·cases h
   ·exact vr h D.2
  |_=>exact vr (by simpa only[AL] using h) D.2
theorem Pf (f:Nat->Bool) (n:Nat):∀ k,k<=n->∃ M,k<=M/\M<=n/\(∀ i,k<=i->i<M->f i=false)/\(M=n\/(M<n/\f M=true)):=by
 intro k hk
 obtain⟨m,Z⟩:∃ m,m=n - k:=⟨_,rfl⟩
 induction m generalizing k with
 |zero=>exact⟨k,SZ _,hk,fun i h1 h2=>by omega,.inl oM⟩
 |succ m ih=>
  by_cases C:f k=true
  ·exact⟨k,SZ _,hk,fun i h1 h2=>by omega,.inr ⟨by omega,C⟩⟩
  ·obtain⟨M,h1,h2,E,h4⟩:=ih (k+1) oM oM
   refine⟨M,by omega,h2,fun i h5 h6=> ?_,h4⟩
   by_cases a:i=k
   ·subst a;simpa using C
   ·exact E i oM h6
theorem Rf (f:Nat->Bool) (k:Nat):∀ M,k<=M->(∀ i,k<=i->i<M->f i=false)\/∃ p,k<=p/\p<M/\f p=true/\∀ i,p<i->i<M->f i=false:=by
 intro M hM
 induction M with
 |zero=>exact .inl fun i h1 h2=>by omega
 |succ M ih=>
  by_cases hk:k=M+1
  ·exact .inl fun i h1 h2=>by omega
  ·by_cases C:f M=true
   ·exact .inr ⟨M,by omega,by omega,C,fun i h1 h2=>by omega⟩
   ·rcases ih oM with h|⟨p,h1,h2,E,h4⟩
    ·refine .inl fun i h1 h2=> ?_
     by_cases hi:i=M
     ·subst hi;simpa using C
     ·exact h i h1 oM
    ·refine .inr ⟨p,h1,by omega,E,fun i h5 h6=> ?_⟩
     by_cases hi:i=M
     ·subst hi;simpa using C
     ·exact h4 i h5 oM
section
variable {P:Program} {c:Cx}
theorem wq (hS:∀ (j:Nat) (so:SO),sos[j]?=some so->JG P so (S j) (S (j+1))) {a:Nat}:∀ b,a<=b->b<=sos.length->(∀ i,a<=i->i<b->fX sos i=false)->
  (S b).h=(S a).h/\∀ t,(∀ i,a<=i->i<b->(sos.map bF)[i]?≠some (some t))->(S b).s t=(S a).s t:=by
 intro b g hb C
 induction b with
 |zero=>
      obtain rfl:a=0:=by omega
      exact⟨rfl,fun _ _=>rfl⟩
 |succ b ih=>
  by_cases f:a=b+1
  ·subst f;exact⟨rfl,fun _ _=>rfl⟩
  obtain⟨h1,h2⟩:=ih oM oM (fun i hi h5=>C i hi oM)
  obtain⟨so,B⟩:∃ so,sos[b]?=some so:=⟨_,S0 oM⟩
  have hx:yF so=false:=by have:=C b oM oM;simpa[fX,B] using this
  obtain⟨d,v,hd,_,he⟩:=wo hx (hS b so B)
  have w5:bF so=some d:=by cases so<;>first|exact hd|simp[yF] at hx
  rw[he]
  refine⟨h1,fun t ht=> ?_⟩
  have U:t≠d:=fun e=>by
   subst e
   exact ht b oM oM (by simp[B,w5])
  simp only[aY _ _ _ _ U]
  exact h2 t fun i hi h5=>ht i hi oM
def b6 (g:List (Option Nat)) (M:Nat) (L:Nat->Bool) (t:Nat):Prop:=∃ i:Nat,i<M/\g[i]?=some (some t)/\L i=false
theorem vt (hQ:∀ O N h7 a' w',cW c O N h7 a' w'->K O->Q .normal a' w') (Z:bo P c.N ops ops.toList sos=true) (hz:∀ i t,c8 i .any (z t)=z t) (qv:kp=true->∀ t,((S 0).s t).firm=true->z t=(S 0).s t) (qw:∀ t,z t= .d .any\/(z t=(S 0).s t/\((S 0).s t).firm=true)) (u3:vp kp P c.N ops sos (sos.map bF) 0 ops.toList sos=true) (hS:∀ (j:Nat) (so:SO),sos[j]?=some so->JG P so (S j) (S (j+1))) (hK:K (S sos.length)):
  ∀ (u:Nat) (r:Array Bool) (M:Nat) (κ:Nat->Value) (φ:Nat->List Nat) (a:Act) (w:World),r.size=ops.size->(yx ops.size r).length=u->
   (∀ (i:Nat) o,r.getD i false=true->ops[i]?=some o->∀ e∈o.after,Region.binds .any e=true->r.getD e.on false=true)->
   M<=sos.length->(∀ i,i<M->fX sos i=true->r.getD i false=true)->(M=sos.length\/(M<sos.length/\fX sos M=true))->(∀ i,M<=i->r.getD i false=false)->
   cW c ⟨nh z (b6 (sos.map bF) M (fun i=>r.getD i false)) (S M).s,(S M).h⟩ κ φ a w->
   wpAny P .any ops Q u r a w:=by
 obtain⟨s3,v2⟩:=fU Z
 have I:sos.length=ops.size:=by simp at s3;omega
 have R:∀ j,j<ops.size->∃ so,sos[j]?=some so:=fun j hj=>⟨_,S0 oM⟩
 have qa:∀ (j:Nat) so,sos[j]?=some so->(sos.map bF)[j]?=some (bF so):=fun j so h=>by simp[h]
 have u5:∀ (j:Nat) o so,ops[j]?=some o->sos[j]?=some so->sN kp P c.N ops sos (sos.map bF) j o so=true:=fun j o so ho B=>by
  have:=pV u3 j o so (by simpa using ho) B
  simpa using this
 have qi:∀ (j:Nat) o so,ops[j]?=some o->sos[j]?=some so->∀ e∈o.after,Region.binds .any e=true->e.on<j:=fun j o so ho B e he hb=>by
  have:=u5 j o so ho B
  simp only[sN,SR] at this
  have:=Un.1 this.1.1.1.2 e he
  simpa[hb] using this
 have s6:∀ (j b:Nat) t,(sos.map bF)[j]?=some (some t)->(sos.map bF)[b]?=some (some t)->b=j:=fun j b t hj hb=>by
  have qs:j<sos.length:=by have:=(SY.1 hj).1;simpa using this
  have w7:b<(sos.map bF).length:=(SY.1 hb).1
  obtain⟨so,B⟩:=R j oM
  have:=u5 j ops[j] so (Uj oM) B
  simp only[sN,SR] at this
  have:=Ti.1 this.1.2 b (TN.2 w7)
  simpa[hj,hb] using this
 have qj:∀ (p j:Nat),p<j->j<sos.length->fX sos p=true->rX ops p j [j]=true:=fun p j qx hj Y=>by
  obtain⟨so,B⟩:=R j oM
  obtain⟨sp,u9⟩:=R p oM
  have:=u5 j ops[j] so (Uj oM) B
  simp only[sN,SR] at this
  have:=Ti.1 this.2 p (TN.2 qx)
  have hx:yF sp=true:=by simpa[fX,u9] using Y
  simpa[u9,hx] using this
 have fin:∀ (r:Array Bool) (M:Nat) (κ:Nat->Value) (φ:Nat->List Nat) (a:Act) (w:World),r.size=ops.size->(M=sos.length\/(M<sos.length/\fX sos M=true))->(∀ i,M<=i->r.getD i false=false)->
   cW c ⟨nh z (b6 (sos.map bF) M (fun i=>r.getD i false)) (S M).s,(S M).h⟩ κ φ a w->Region.ready .any ops r=[]->Q .normal a w:=by
  intro r M κ φ a w L hM V D m
  have all:∀ j,j<ops.size->r.getD j false=true:=by
   intro j
   induction j using Nat.strongRecOn with
   |_ j ih=>
    intro hj
    by_cases hl:r.getD j true=false
    ·exfalso
     have ho:ops[j]?=some ops[j]:=Uj hj
     obtain⟨so,B⟩:=R j hj
     have hx:=qi j ops[j] so ho B
     have:j∈Region.ready .any ops r:=mem_ready.2 ⟨hl,ops[j],ho,fun e he hb=>ih e.on (hx e he hb) (by have:=hx e he hb;omega)⟩
     rw[m] at this;simp at this
    ·have r3:j<r.size:=by omega
     simp[r3] at hl⊢
     exact hl
  have w4:M=sos.length:=by
   rcases hM with h|⟨h,_⟩
   ·exact h
   ·have h1:=all M oM
    rw[V M (SZ _)] at h1;cases h1
  refine hQ _ _ _ _ _ D ?_
  have:nh z (b6 (sos.map bF) M (fun i=>r.getD i false)) (S M).s=(S M).s:=by
   funext t
   refine fg fun⟨i,_,h1,h2⟩=> ?_
   have s7:i<sos.length:=by have:=(SY.1 h1).1;simpa using this
   simp only[all i oM] at h2;cases h2
  rw[this,w4];exact hK
 intro u
 induction u with
 |zero=>
  intro r M κ φ a w L hu _ _ _ hM V D
  have m:Region.ready .any ops r=[]:=by
   cases A:Region.ready .any ops r with
   |nil=>rfl
   |cons i l=>
    exfalso
    have hi:i∈Region.ready .any ops r:=by rw[A];simp
    obtain⟨h0,o,ho,_⟩:=mem_ready.1 hi
    have:i∈yx ops.size r:=by simp only[yx,U3,TN,h0,Tm,and_true];exact(Ts.1 ho).1
    rw[Ta.1 hu] at this;simp at this
  exact⟨m,fin r M κ φ a w L hM V D m⟩
 |succ u ih=>
  intro r M κ φ a w L hu h6 w4 v5 hM V D
  refine⟨fin r M κ φ a w L hM V D,fun j hj=> ?_⟩
  obtain⟨h0,o,ho,h9⟩:=mem_ready.1 hj
  have v4:j<ops.size:=(Ts.1 ho).1
  obtain⟨so,B⟩:=R j v4
  have u0:r.getD j false=false:=by
   simp only[TH] at h0⊢
   have:j<r.size:=by omega
   simpa[this] using h0
  have v6:=vh h6 ho h9 oM
  have w3:(yx ops.size (r.setIfInBounds j true)).length=u:=by
   have:=D2 v4 L h0
   omega
  have s8:∀ i,(r.setIfInBounds j true).getD i false=(r.getD i false||i==j):=fun i=>by
   by_cases r0:j=i
   ·subst r0;simp[L,v4]
   ·rw[getD_set_ne false r0];simp[Ne.symm r0]
  have qG:j<=M:=by
   rcases Ty M j with X|s0
   ·exfalso
    rcases hM with h|⟨h,hx⟩
    ·omega
    ·have h1:=qj M j X oM hx
     have h2:=i1 v6 j [j] (by simp[s8]) h1
     rw[s8,V M (SZ _)] at h2
     simp at h2
     omega
   ·exact s0
  have u6:=u5 j o so ho B
  have u7:∀ (xs:List SX) (fo fw:Bool),pU kp fo fw ops sos (sos.map bF) j o xs=true->∀ t,.t t∈xs->(¬ b6 (sos.map bF) M (fun i=>r.getD i false) t/\∀ b:Nat,(sos.map bF)[b]?=some (some t)->b<j\/M<=b)\/
    (kp=true/\fo=true/\∃ b:Nat,(sos.map bF)[b]?=some (some t)/\j<b/\b<M/\r.getD b false=false/\(fw=true\/∃ p,j<=p/\p<b/\fX sos p=true)/\∀ p,p<M->fX sos p=true->p<b):=fun xs fo fw T t ht=>by
   have v1:∀ b p:Nat,p<b->j<=p->fX sos p=true->(p=j\/rX ops j p [p]=true)->M<=b:=fun b p h1 h2 E h4=>by
    rcases Ty b M with X|v0
    ·exfalso
     have qc:=v5 p oM E
     rcases h4 with rfl|h4
     ·rw[u0] at qc;cases qc
     ·have:=i1 h6 p [p] (by simpa using qc) h4
      rw[u0] at this;cases this
    ·exact v0
   by_cases v9:∃ b:Nat,(sos.map bF)[b]?=some (some t)/\kp=true/\fo=true/\j<b/\rX ops j b [b]=true/\b<M/\(fw=true\/∃ p,j<=p/\p<b/\fX sos p=true)/\∀ p,p<sos.length->fX sos p=true->p<b\/rX ops j p [p]=true
   ·obtain⟨b,hb,k1,k2,k3,k4,k5,k7,k6⟩:=v9
    refine .inr ⟨k1,k2,b,hb,k3,k5, ?_,k7,fun p Y hx=> ?_⟩
    ·by_cases qk:r.getD b false=true
     ·have:=i1 h6 b [b] (by simpa using qk) k4
      rw[u0] at this;cases this
     ·simpa using qk
    ·rcases k6 p oM hx with h|h
     ·exact h
     ·have:=i1 h6 p [p] (by simpa using v5 p Y hx) h
      rw[u0] at this;cases this
   ·refine .inl ⟨fun⟨b,v3,s4,r8⟩=> ?_,fun b hb=> ?_⟩
    ·rcases re T ht s4 with⟨_,e,he,w2,rfl⟩|⟨p,h1,h2,E,h4⟩|⟨k1,k2,k3,k4,k7,k5⟩
     ·simp only[h9 e he w2] at r8;cases r8
     ·have:=v1 b p h1 h2 E h4;omega
     ·exact v9 ⟨b,s4,k1,k2,k3,k4,v3,k7,k5⟩
    ·rcases re T ht hb with⟨h,_⟩|⟨p,h1,h2,E,h4⟩|⟨k1,k2,k3,k4,k7,k5⟩
     ·exact .inl h
     ·exact .inr (v1 b p h1 h2 E h4)
     ·refine .inr ?_
      rcases Ty b M with X|v0
      ·exact absurd ⟨b,hb,k1,k2,k3,k4,X,k7,k5⟩ v9
      ·exact v0
  have u1:∀ (xs:List SX),(∃ fw,pU kp false fw ops sos (sos.map bF) j o xs=true)->∀ t,.t t∈xs->¬ b6 (sos.map bF) M (fun i=>r.getD i false) t/\∀ b:Nat,(sos.map bF)[b]?=some (some t)->b<j\/M<=b:=fun xs ⟨fw,T⟩ t ht=>
   (u7 xs false fw T t ht).resolve_right fun h=>by cases h.2.1
  have first:∀ (n b k:Nat),kp=true->(sos.map bF)[b]?=some (some n)->k<=b->k<=sos.length->b<M->r.getD b false=false->((S k).s n).firm=true->nh z (b6 (sos.map bF) M (fun i=>r.getD i false)) (S M).s n=(S k).s n:=fun n b k qy hb r5 qd qz qk C=>by
   rw[lD (U:=b6 (sos.map bF) M (fun i=>r.getD i false)) ⟨b,qz,hb,qk⟩]
   have h0:=AK hS (a:=0) (n:=n) k (TK _) qd (fun i _ h5 h=>by have:=s6 b i n hb h;omega) C
   rw[<-h0]
   exact qv qy n (by rw[h0];exact C)
  unfold wpOp
  simp only[ho]
  by_cases hX:yF so=true
  ·
   have qm:j=M:=by
    rcases Ty j M with X|s0
    ·have:=v5 j X (by simpa[fX,B] using hX)
     rw[u0] at this;cases this
    ·omega
   subst qm
   obtain⟨e,H,qA,qb,qn⟩:∃ (e:Option Nat) (H:SO),e=bF so/\kr P c.N ops o H=true/\AO P H ⟨nh z (b6 (sos.map bF) j (fun i=>r.getD i false)) (S j).s,(S j).h⟩ (· =⟨nh z (fun t=>b6 (sos.map bF) j (fun i=>r.getD i false) t/\e≠some t) (S (j+1)).s,(S (j+1)).h⟩):=by
    cases so<;>simp[yF] at hX
    ·rename_i d op late
     obtain⟨p,G,Y,g⟩:=hS j _ B
     have T:∃ fw,pU kp false fw ops sos (sos.map bF) j o (Gv op)=true:=by
      simp only[sN,SR] at u6;exact⟨_,u6.1.1.2⟩
     have qB:=LD hz (U:=b6 (sos.map bF) j (fun i=>r.getD i false)) G (fun x hx t ht=>(u1 _ T t (ht▸hx)).1)
     refine⟨pS d op,.x d op [],rfl, ?_, ?_⟩
     ·have:=v2 j o _ (by simpa using ho) B
      simpa only[kr,e6] using this
     ·simp only[AO,qB,oQ,and_true,true_and];exact Y
    ·rename_i d f args late
     obtain⟨F,as,res,q1,W,q3,q4,q5,g⟩:=hS j _ B
     have T:∃ fw,pU kp false fw ops sos (sos.map bF) j o (f::args)=true:=by
      simp only[sN,SR] at u6;exact⟨_,u6.1.1.2⟩
     refine⟨some d,.q d f args [],rfl, ?_, ?_⟩
     ·have:=v2 j o _ (by simpa using ho) B
      simpa only[kr,e6] using this
     ·have qe:∀ x∈f::args,ev (nh z (b6 (sos.map bF) j (fun i=>r.getD i false)) (S j).s) x=ev (S j).s x:=fun x hx=>lE fun t ht=>(u1 _ T t (ht▸hx)).1
      have r4:args.map (ev (nh z (b6 (sos.map bF) j (fun i=>r.getD i false)) (S j).s))=args.map (ev (S j).s):=TR fun x hx=>qe x (by simp[hx])
      exact⟨F,as,res,_,by rw[<-q1];exact qe f oS,by rw[<-W];simp only[r4],q3,q4,FM hz q5,trivial,rfl⟩
   refine wm D qb qn fun O N h7 a' w' h8 hk=> ?_
   subst hk
   obtain⟨M',h1,h2,E,h4⟩:=Pf (fX sos) sos.length (j+1) oM
   obtain⟨q1,W⟩:=wq hS M' h1 h2 E
   have qp:bm ⟨nh z (fun t=>b6 (sos.map bF) j (fun i=>r.getD i false) t/\e≠some t) (S (j+1)).s,(S (j+1)).h⟩ ⟨nh z (b6 (sos.map bF) M' (fun i=>(r.setIfInBounds j true).getD i false)) (S M').s,(S M').h⟩:=by
    refine pT (fun t=> ?_) (fun i=> .inl (by simp only[q1]))
    by_cases hU:b6 (sos.map bF) M' (fun i=>(r.setIfInBounds j true).getD i false) t
    ·show nh z (b6 (sos.map bF) M' (fun i=>(r.setIfInBounds j true).getD i false)) (S M').s t=nh z (fun t=>b6 (sos.map bF) j (fun i=>r.getD i false) t/\e≠some t) (S (j+1)).s t\/nh z (b6 (sos.map bF) M' (fun i=>(r.setIfInBounds j true).getD i false)) (S M').s t=_
     by_cases hV:b6 (sos.map bF) j (fun i=>r.getD i false) t/\e≠some t
     ·rw[lD hU,lD (U:=fun t=>b6 (sos.map bF) j (fun i=>r.getD i false) t/\e≠some t) hV];exact .inl rfl
     ·rw[lD hU,fg (U:=fun t=>b6 (sos.map bF) j (fun i=>r.getD i false) t/\e≠some t) hV]
      rcases qw t with h|⟨h,C⟩
      ·exact .inr h
      ·refine .inl ?_
       obtain⟨i,qf,u2,r9⟩:=hU
       have r0:j<i:=by
        rcases Ty j i with h'|h'
        ·exact h'
        ·exfalso
         simp only[s8,TS,UW,ne_eq] at r9
         refine hV ⟨⟨i,by omega,u2,r9.1⟩,fun he=> ?_⟩
         rw[qA] at he
         have:=s6 j i t (by rw[qa j so B,he]) u2
         omega
       rw[h]
       exact(LF hS (a:=0) C (j+1) (TK _) oM fun q _ hq h'=>by have:=s6 i q t u2 h';omega).symm
    ·refine .inl ?_
     simp only[fg hU]
     rw[fg,W t]
     ·intro i hi h5 he
      refine hU ⟨i,h5,he, ?_⟩
      simp only[s8,V i oM,T7,UW,ne_eq]
      omega
     ·rintro⟨⟨i,qf,u2,r9⟩,_⟩
      refine hU ⟨i,by omega,u2, ?_⟩
      simp only[s8,r9,T7,UW,ne_eq]
      omega
   obtain⟨qo,w8,s9⟩:=qp _ _ _ _ _ h8
   refine ih (r.setIfInBounds j true) M' qo w8 a' w' (by simp[L]) w3 v6 h2 ?_ h4 ?_ s9
   ·intro i hi hx
    rw[s8]
    by_cases r0:i=j
    ·simp[r0]
    ·rcases Ty i j with X|v0
     ·simp[v5 i X hx]
     ·rw[E i oM hi] at hx;cases hx
   ·intro i hi
    rw[s8,V i oM];simp;omega
  ·
   simp only[Uh] at hX
   obtain⟨d,v,hd,hy,he⟩:=wo hX (hS j so B)
   have w5:bF so=some d:=by cases so<;>first|exact hd|simp[yF] at hX
   have w9:(sos.map bF)[j]?=some (some d):=by rw[qa j so B,w5]
   have qm:j<M:=by
    rcases hM with h|⟨h,hx⟩
    ·omega
    ·rcases Ty j M with h'|h'
     ·exact h'
     ·obtain rfl:j=M:=by omega
      simp only[fX,B,hX] at hx;cases hx
   have T:pU kp (RM so) (Ih so) ops sos (sos.map bF) j o (Jq so)=true:=by
    simp only[sN,SR] at u6
    have:=u6.1.1.2
    cases so<;>first|exact this|simp[yF] at hX
   have w1:am (nh z (b6 (sos.map bF) M (fun i=>r.getD i false)) (S M).s) d ((S M).s d)=nh z (b6 (sos.map bF) M (fun i=>(r.setIfInBounds j true).getD i false)) (S M).s:=by
    funext t
    by_cases ht:t=d
    ·subst ht
     rw[ar,fg]
     rintro⟨i,_,u2,r9⟩
     have:=s6 j i t w9 u2
     subst this
     simp[s8] at r9
    ·rw[aY _ _ _ _ ht]
     by_cases hU:b6 (sos.map bF) M (fun i=>r.getD i false) t
     ·rw[lD hU,lD]
      obtain⟨i,qf,u2,r9⟩:=hU
      refine⟨i,qf,u2, ?_⟩
      simp only[s8,r9,T7,UW,ne_eq]
      intro r0
      subst r0
      rw[w9] at u2;simp at u2;exact ht u2.symm
     ·rw[fg hU,fg]
      rintro⟨i,qf,u2,r9⟩
      exact hU ⟨i,qf,u2,by simp only[s8,TS] at r9;exact r9.1⟩
   have key:∃ H,kr P c.N ops o H=true/\iU H=some d/\YS P (S M).h H (nh z (b6 (sos.map bF) M (fun i=>r.getD i false)) (S M).s) ((S M).s d):=by
    rcases Rf (fX sos) j M oM with r1|⟨p,v7,v8,qg,qt⟩
    ·obtain⟨q1,W⟩:=wq hS M oM w4 r1
     obtain⟨q3,q4⟩:=wq hS (a:=j+1) M oM w4 (fun i hi h5=>r1 i oM h5)
     have hv:(S M).s d=v:=by
      rw[q4 d fun i hi h5 h=>by have:=s6 j i d w9 h;omega,he]
      simp[ar]
     refine⟨so,v2 j o so (by simpa using ho) B,hd, ?_⟩
     rw[hv,q1]
     refine wi (s:=(S j).s) (fun x hx=> ?_) hy
     cases x with
     |t n=>
      show(S j).s n=nh z _ (S M).s n
      rcases u7 _ _ _ T n hx with⟨o1,o2⟩|⟨k1,k2,b,k3,k4,k5,k6,k7,_⟩
      ·rw[fg o1,W n fun i hi h5 h=>by have:=o2 i h;omega]
      ·refine(first n b j k1 k3 oM oM k5 k6 ?_).symm
       rcases k7 with k7|⟨p,m1,m2,m3⟩
       ·cases so<;>simp only[Ih,Tb] at k7
        obtain⟨pp,A,_⟩:=hy
        exact Ii A k7 hx
       ·have:=r1 p m1 oM
        rw[m3] at this;cases this
     |c v=>rfl
     |f i=>rfl
    ·have qC:j<p:=by
      rcases Ty j p with h|h
      ·exact h
      ·obtain rfl:p=j:=by omega
       simp only[fX,B,hX] at qg;cases qg
     obtain⟨sp,u9⟩:=R p oM
     have qq:yF sp=true:=by simpa[fX,u9] using qg
     have qu:=u5 p ops[p] sp (Uj oM) u9
     simp only[sN,SR] at qu
     have hl:=Ti.1 qu.2 j (TN.2 qC)
     simp only[B,hX,qq,S9,T7,Tb,Tq,TE] at hl
     have qc:=v5 p v8 qg
     have qr:oQ (S (p+1)) (xE sp):=by
      cases sp<;>simp[yF] at qq
      ·obtain⟨_,_,_,g⟩:=hS p _ u9;exact g
      ·obtain⟨_,_,_,_,_,_,_,_,g⟩:=hS p _ u9;exact g
     rcases hl with(hl|hl)|hl
     rotate_left 2
     ·obtain⟨d2,F,args,ts,e1,e2,e3⟩:=vr hl qr
      rw[B] at e1;simp only[SN] at e1;subst e1
      simp only[iU,SN] at hd;subst hd
      obtain⟨q1,W⟩:=wq hS (a:=p+1) M oM w4 (fun i hi h5=>qt i oM h5)
      have w0:∀ n,n∈ts->(.t n:SX)∈args->(S j).s n=(S M).s n/\nh z (b6 (sos.map bF) M (fun i=>r.getD i false)) (S M).s n=(S M).s n/\((S M).s n).firm=true:=fun n hn qD=>by
       obtain⟨o1,o2⟩:=u1 _ ⟨_,by simpa only[RM] using T⟩ n (by simp[Jq,qD])
       have h1:(S M).s n=(S (p+1)).s n:=W n fun i hi h5 h=>by have:=o2 i h;omega
       have h2:=yG e3 n hn
       have E:=AK hS (a:=j) (n:=n) (p+1) oM oM (fun i hi h5 h=>by have:=o2 i h;omega) h2
       exact⟨by rw[h1,E],fg o1,by rw[h1];exact h2⟩
      have qe:∀ x∈args,ev (S j).s x=ev (nh z (b6 (sos.map bF) M (fun i=>r.getD i false)) (S M).s) x/\∃ v,(ev (S j).s x).toDV=some v:=fun x hx=>by
       rcases e2 x hx with⟨n,rfl,hn⟩|⟨v,rfl,hv⟩
       ·obtain⟨k1,k2,k3⟩:=w0 n hn hx
        refine⟨by simp only[ev];rw[k2,k1], ?_⟩
        simp only[ev];rw[k1];exact C5 _ k3
       ·exact⟨rfl,T0.1 hv⟩
      have s5:args.map (ev (nh z (b6 (sos.map bF) M (fun i=>r.getD i false)) (S M).s))=args.map (ev (S j).s):=TR fun x hx=>((qe x hx).1).symm
      obtain⟨J,r6⟩:∃ J,SV.toDVs (args.map (ev (S j).s))=some J:=by
       have:∀ l:List SX,(∀ x∈l,∃ v,(ev (S j).s x).toDV=some v)->∃ J,SV.toDVs (l.map (ev (S j).s))=some J:=fun l=>by
        induction l with
        |nil=>intro _;exact⟨[],rfl⟩
        |cons x l ih=>
         intro h
         obtain⟨v,hv⟩:=h x oS
         obtain⟨J,r6⟩:=ih fun y hy=>h y (by simp[hy])
         exact⟨v::J,by simp only[Tc,SV.toDVs,hv,r6]⟩
       exact this args fun x hx=>(qe x hx).2
      simp only[YS,ev,i7 _ _ _ r6] at hy
      obtain⟨res,y1,_,rfl⟩:=hy
      have qE:(S M).s d2= .d res:=NV hS (a:=j+1) (by rw[he];simp[am]) M oM w4 fun i hi h5 h=>by have:=s6 j i d2 w9 h;omega
      refine⟨.c d2 (.f F) args,v2 j o _ (by simpa using ho) B,rfl, ?_⟩
      simp only[YS,ev,s5,i7 _ _ _ r6]
      exact⟨res,y1,.inl (by rw[r6];rfl),qE⟩
     ·exfalso
      have:=i1 h6 p [p] (by simpa using qc) hl
      rw[u0] at this;cases this
     ·have g:oQ (S (p+1)) (xE sp):=by
       cases sp<;>simp[yF] at qq
       ·obtain⟨_,_,_,g⟩:=hS p _ u9;exact g
       ·obtain⟨_,_,_,_,_,_,_,_,g⟩:=hS p _ u9;exact g
      obtain⟨d2,w6,o2,k1,k2,kk⟩:=yH hl g
      rw[ho] at k2;simp only[SN] at k2;subst k2
      rw[w9] at k1;simp only[SN] at k1;subst k1
      obtain⟨q1,W⟩:=wq hS (a:=p+1) M oM w4 (fun i hi h5=>qt i oM h5)
      have ql:(S M).s d=(S (p+1)).s d:=W d fun i hi h5 h=>by have:=s6 j i d w9 h;omega
      have u8:∀ (xs:List SX) (fo:Bool),pU kp fo true ops sos (sos.map bF) j o xs=true->∀ n,.t n∈xs->(fo=true->((S (p+1)).s n).firm=true)->nh z (b6 (sos.map bF) M (fun i=>r.getD i false)) (S M).s n=(S (p+1)).s n:=fun xs fo T n hx qF=>by
       rcases u7 _ _ _ T n hx with⟨o1,o3⟩|⟨m1,m2,b,m3,m4,m5,m6,_,m7⟩
       ·rw[fg o1,W n fun i hi h5 h=>by have:=o3 i h;omega]
       ·have:=m7 p v8 qg
        exact first n b (p+1) m1 m3 oM oM m5 m6 (qF m2)
      have qh:∀ {w6:oX} {v:SV} {pp:Prop},rd (S (p+1)).h (S (p+1)).s w6=some (pp,v)->∀ n,.t n∈pC w6->(sL w6||AJ w6 (xE sp))=true->((S (p+1)).s n).firm=true:=fun hv n hn C=>by
       rw[TE] at C
       rcases C with C|C
       ·exact Ii hv C hn
       ·exact He C g hn
      rcases kk with⟨k3,k4,k5,pp,k6,k7⟩|⟨gt,gw,k4,k5,pp,k6,k7⟩
      ·refine⟨.r d w6,by simp only[kr,k3,k4];rfl,rfl,pp, ?_,k7⟩
       rw[q1,ql,<-k6]
       refine Al fun x hx=> ?_
       cases x with
       |t n=>exact u8 _ _ k5 n hx (qh k6 n hx)
       |c v=>rfl
       |f i=>rfl
      ·have u4:((S (p+1)).s gt).firm=true:=by
        simp only[Pa] at k6
        split at k6
        ·rename_i hb;rw[hb];rfl
        ·rename_i hb;rw[hb];rfl
        ·cases k6
       have e1:=u8 _ _ k5 gt oS (fun _=>u4)
       refine⟨.g gt gw (some d) (.r d w6),k4,by simp[iU], ?_⟩
       simp only[YS]
       simp only[Pa] at k6
       split at k6
       ·rename_i b hb
        split at k6
        ·rename_i s1
         refine .inl ⟨b,e1.trans hb,.inl ⟨s1,pp, ?_,k7⟩⟩
         rw[q1,ql,<-k6]
         refine Al fun x hx=> ?_
         cases x with
         |t n=>exact u8 _ _ k5 n (To _ hx) (qh k6 n hx)
         |c v=>rfl
         |f i=>rfl
        ·rename_i s1
         simp only[SN,SU] at k6
         refine .inl ⟨b,e1.trans hb,.inr ⟨?_,ql.trans k6.2.symm⟩⟩
         exact NW s1
       ·rename_i hb
        simp only[SN,SU] at k6
        exact .inr ⟨e1.trans hb,ql.trans k6.2.symm⟩
       ·cases k6
   obtain⟨H,r7,r2,s2⟩:=key
   refine wm D r7 (CS r2 s2) fun O N h7 a' w' h8 hk=> ?_
   subst hk
   refine ih (r.setIfInBounds j true) M N h7 a' w' (by simp[L]) w3 v6 w4 ?_ hM ?_ ?_
   ·intro i hi hx;rw[s8,v5 i hi hx];rfl
   ·intro i hi;rw[s8,V i hi];simp;omega
   ·rw[<-w1];exact h8
theorem AN (hQ:∀ O N h7 a' w',cW c O N h7 a' w'->K O->Q .normal a' w') (Z:bo P c.N ops ops.toList sos=true) (u3:vp true P c.N ops sos (sos.map bF) 0 ops.toList sos=true) (r3:∀ U,∃ N h7,cW c ⟨nh (oh σ.s) U σ.s,σ.h⟩ N h7 a w) (h:aD P K sos σ):
  wpAny P .any ops Q ops.size (Array.replicate ops.size false) a {w with drawn:=w.drawn+1}:=by
 obtain⟨s3,v2⟩:=fU Z
 have I:sos.length=ops.size:=by simp at s3;omega
 obtain⟨S,b,hS,hK⟩:=zx sos σ (fun so B=>by
  obtain⟨j,hj,r4⟩:=Vb B
  have:=pV u3 j ops[j] so oS (by rw[S0 hj,r4])
  simp only[sN,SR] at this
  exact this.1.1.1.1) h
 obtain⟨M,h1,h2,E,h4⟩:=Pf (fX sos) sos.length 0 oM
 have V:∀ i,(Array.replicate ops.size false).getD i false=false:=fun i=>by
  by_cases hi:i<ops.size<;>simp[hi]
 obtain⟨N,h7,D⟩:=r3 (b6 (sos.map bF) M (fun i=>(Array.replicate ops.size false).getD i false))
 refine vt (c:=c) hQ Z (JH σ.s) (fun _ t h=>by rw[b] at h⊢;simp[oh,h]) (fun t=>by rw[b];exact FO σ.s t) u3 hS hK ops.size _ M N h7 a _ oS ?_ ?_ h2 ?_ h4 (fun i _=>V i) ?_
 ·have:yx ops.size (Array.replicate ops.size false)=List.range ops.size:=by
   unfold yx
   rw[List.filter_eq_self]
   intro i hi
   simp at hi
   simp[hi]
  rw[this];simp
 ·intro i o hi
  rw[V] at hi;cases hi
 ·intro i hi hx
  rw[E i oM hi] at hx;cases hx
 ·obtain⟨q1,W⟩:=wq hS M h1 h2 (fun i hi h5=>E i hi h5)
  rw[q1,b]
  have:nh (oh σ.s) (b6 (sos.map bF) M (fun i=>(Array.replicate ops.size false).getD i false)) (S M).s=nh (oh σ.s) (b6 (sos.map bF) M (fun i=>(Array.replicate ops.size false).getD i false)) σ.s:=by
   refine C3 fun t ht=> ?_
   rw[W t fun i hi h5 he=>ht ⟨i,h5,he,V i⟩,b]
  rw[this]
  exact D.grown ((Below.refl _ _).drew)
theorem Ej (l:P.follows .mixedOrders=true) (hQ:∀ O N h7 a' w',cW c O N h7 a' w'->K O->Q .normal a' w') (Z:bo P c.N ops ops.toList sos=true) (u3:vp true P c.N ops sos (sos.map bF) 0 ops.toList sos=true) (r3:∀ U,∃ N h7,cW c ⟨nh (oh σ.s) U σ.s,σ.h⟩ N h7 a w) (h:aD P K sos σ):
  (Code.region id ops true).wp P Q a w:=wp_region_any l (AN hQ Z u3 r3 h)
end
def c1 (π:List Nat) (ops:Array Oper):Array Oper:=
 (π.filterMap fun i=>(ops[i]?).map fun o=>{o with after:=o.after.map fun e=>{e with on:=π.idxOf e.on}}).toArray
def ku (π:List Nat) (ops:Array Oper):Bool:=
 π.length==ops.size&&π.all (fun i=>decide (i<ops.size))&&(List.range ops.size).all (fun i=>π.contains i)&&decide π.Nodup&&ops.all (fun o=>o.guard==none)
theorem iK {α β:Type} {f:α->Option β} {g:α->β}:∀ {l:List α},(∀ x∈l,f x=some (g x))->l.filterMap f=l.map g
 |[],_=>rfl
 |x::l,h=>by rw[List.filterMap_cons_some (h x oS),iK fun y hy=>h y (by simp[hy])];rfl
theorem AP (Y:ku π ops=true):∀ (u:Nat) (r b:Array Bool) (a:Act) (w:World),r.size=ops.size->b.size=ops.size->
  (∀ k i:Nat,π[k]?=some i->b.getD k false=r.getD i false)->wpAny P .any (c1 π ops) Q u b a w->wpAny P .any ops Q u r a w:=by
 simp only[ku,SR,S_,S5,Ti,Un,TN,List.contains_iff_mem] at Y
 obtain⟨⟨⟨⟨I,X⟩,h5⟩,r6⟩,hg⟩:=Y
 have F:(c1 π ops).size=ops.size:=by
  unfold c1
  rw[iK (g:=fun i=>{(ops.getD i ⟨none,.move (.tmp 0),0, "",#[],none⟩) with after:=((ops.getD i ⟨none,.move (.tmp 0),0, "",#[],none⟩).after.map fun e=>{e with on:=π.idxOf e.on})})]
  ·simp[I]
  ·intro i hi
   have:=X i hi
   simp[this]
 have R:∀ k i:Nat,π[k]?=some i->∃ o,ops[i]?=some o/\(c1 π ops)[k]?=some {o with after:=o.after.map fun e=>{e with on:=π.idxOf e.on}}:=by
  intro k i hk
  have hi:i<ops.size:=X i (SW hk)
  refine⟨ops[i],by simp, ?_⟩
  unfold c1
  rw[iK (g:=fun i=>{(ops.getD i ⟨none,.move (.tmp 0),0, "",#[],none⟩) with after:=((ops.getD i ⟨none,.move (.tmp 0),0, "",#[],none⟩).after.map fun e=>{e with on:=π.idxOf e.on})})]
  ·simp[hk,hi]
  ·intro j hj
   have:=X j hj
   simp[this]
 have s1:∀ i:Nat,i<ops.size->π[π.idxOf i]?=some i:=by
  intro i hi
  have:=h5 i hi
  rw[S0 (List.idxOf_lt_length_iff.2 this),List.getElem_idxOf]
 have m:∀ (r b:Array Bool),r.size=ops.size->b.size=ops.size->(∀ k i:Nat,π[k]?=some i->b.getD k false=r.getD i false)->∀ k i:Nat,π[k]?=some i->(k∈Region.ready .any (c1 π ops) b↔i∈Region.ready .any ops r):=by
  intro r b h1 h2 hl k i hk
  obtain⟨o,ho,ho'⟩:=R k i hk
  have hi:i<ops.size:=(Ts.1 ho).1
  have r2:k<ops.size:=by have:=(SY.1 hk).1;omega
  have hd:b.getD k true=r.getD i true:=by
   have:=hl k i hk
   have M:b.getD k false=b.getD k true:=by simp[TH,h2,r2]
   have a2:r.getD i false=r.getD i true:=by simp[TH,h1,hi]
   rw[<-M,<-a2];exact this
  have p:∀ x:Nat,b.getD (π.idxOf x) false=r.getD x false:=by
   intro x
   by_cases hx:x<ops.size
   ·exact hl _ _ (s1 x hx)
   ·have f:x∉π:=fun Z=>hx (X x Z)
    rw[List.idxOf_eq_length f]
    simp[TH,h1,h2,I,hx]
  rw[mem_ready,mem_ready,hd]
  constructor
  ·rintro⟨q1,o2,W,q3⟩
   rw[ho'] at W;simp only[SN] at W;subst W
   refine⟨q1,o,ho,fun e he hb=> ?_⟩
   have:=q3 {e with on:=π.idxOf e.on} (by simp only[Array.mem_map];exact⟨e,he,rfl⟩) hb
   rw[<-p];exact this
  ·rintro⟨q1,o2,W,q3⟩
   rw[ho] at W;simp only[SN] at W;subst W
   refine⟨q1,_,ho',fun e he hb=> ?_⟩
   simp only[Array.mem_map] at he
   obtain⟨e0,v9,rfl⟩:=he
   rw[p];exact q3 e0 v9 hb
 have q:∀ (r b:Array Bool),r.size=ops.size->b.size=ops.size->(∀ k i:Nat,π[k]?=some i->b.getD k false=r.getD i false)->Region.ready .any ops r=[]->Region.ready .any (c1 π ops) b=[]:=by
  intro r b h1 h2 hl hn
  cases D:Region.ready .any (c1 π ops) b with
  |nil=>rfl
  |cons k l=>
   exfalso
   have hk:k∈Region.ready .any (c1 π ops) b:=by rw[D];simp
   obtain⟨_,o,ho,_⟩:=mem_ready.1 hk
   have r1:k<π.length:=by have:=(Ts.1 ho).1;omega
   have:=(m r b h1 h2 hl k π[k] (S0 r1)).1 hk
   rw[hn] at this;simp at this
 intro u
 induction u with
 |zero=>
  intro r b a w h1 h2 hl h
  refine⟨?_,h.2⟩
  cases D:Region.ready .any ops r with
  |nil=>rfl
  |cons i l=>
   exfalso
   have hi:i∈Region.ready .any ops r:=by rw[D];simp
   obtain⟨_,o,ho,_⟩:=mem_ready.1 hi
   have:=(m r b h1 h2 hl _ _ (s1 i (Ts.1 ho).1)).2 hi
   rw[h.1] at this;simp at this
 |succ u ih=>
  intro r b a w h1 h2 hl h
  refine⟨fun hn=>h.1 (q r b h1 h2 hl hn),fun i hi=> ?_⟩
  obtain⟨_,o,ho,_⟩:=mem_ready.1 hi
  have s:i<ops.size:=(Ts.1 ho).1
  have hk:=s1 i s
  have r2:=(m r b h1 h2 hl _ _ hk).2 hi
  have E:=h.2 _ r2
  obtain⟨o2,s5,ho'⟩:=R _ _ hk
  rw[ho] at s5;simp only[SN] at s5;subst s5
  have d:o.guard=none:=by simpa using hg o (Array.mem_of_getElem? ho)
  unfold wpOp at E⊢
  simp only[ho'] at E
  simp only[ho]
  have K:Region.wanted o (yielded ops a.tmps)=true:=by simp[Region.wanted,d]
  have L:Region.wanted {o with after:=o.after.map fun e=>{e with on:=π.idxOf e.on}} (yielded (c1 π ops) a.tmps)=true:=by simp[Region.wanted,d]
  rw[L,U4 rfl] at E
  rw[K,U4 rfl]
  have n:∀ a' w',wpAny P .any (c1 π ops) Q u (b.setIfInBounds (π.idxOf i) true) a' w'->wpAny P .any ops Q u (r.setIfInBounds i true) a' w':=fun a' w'=>ih _ _ a' w' (by simp[h1]) (by simp[h2]) fun k j S=>by
   have r1:k<π.length:=(SY.1 S).1
   by_cases r0:j=i
   ·subst r0
    have r3:k=π.idxOf j:=by
     have e1:=(SY.1 S).2
     have e2:=(SY.1 hk).2
     exact(List.getElem_inj r6).1 (e1.trans e2.symm)
    subst r3
    simp[TH,h1,h2,s,I▸r1]
   ·have r3:π.idxOf i≠k:=fun e=>by
     subst e
     rw[hk] at S;simp at S;exact r0 S.symm
    rw[getD_set_ne false r3,getD_set_ne false (Ne.symm r0)]
    exact hl k j S
  rcases E with E|E
  ·exact .inl (Oper.wp_mono n E)
  ·exact .inr E
theorem Hf (D:cW c σ κ φ a w) (hQ:∀ O N h7 a' w',cW c O N h7 a' w'->K O->Q .normal a' w') (Y:ku π ops=true) (Z:bo P c.N (c1 π ops) (c1 π ops).toList sos=true) (u3:vp true P c.N (c1 π ops) sos (sos.map bF) 0 (c1 π ops).toList sos=true) (h:aD P K sos σ):
  wpAny P .any ops Q ops.size (Array.replicate ops.size false) a {w with drawn:=w.drawn+1}:=by
 have h1:=AN hQ Z u3 (fun U=>pT (σ:=σ) (O:=⟨nh (oh σ.s) U σ.s,σ.h⟩) (fun t=>FP σ.s U t) (fun _=> .inl rfl) _ _ _ _ _ D) h
 have I:π.length=ops.size:=by simp only[ku,SR,S_] at Y;exact Y.1.1.1.1
 have F:(c1 π ops).size=ops.size:=by
  have:=TX List.length (show(c1 π ops).toList=_ from rfl)
  have h2:=Y
  simp only[ku,SR,S_,Ti,S5] at h2
  unfold c1
  rw[iK (g:=fun i=>{(ops.getD i ⟨none,.move (.tmp 0),0, "",#[],none⟩) with after:=((ops.getD i ⟨none,.move (.tmp 0),0, "",#[],none⟩).after.map fun e=>{e with on:=π.idxOf e.on})})]
  ·simp[I]
  ·intro i hi
   have:=h2.1.1.1.2 i hi
   simp[this]
 rw[F] at h1
 refine AP Y ops.size _ _ a _ oS oS (fun k i hk=> ?_) h1
 have r2:k<ops.size:=by have:=(SY.1 hk).1;omega
 by_cases hi:i<ops.size<;>simp[TH,r2,hi]
theorem Ek (l:P.follows .mixedOrders=true) (D:cW c σ κ φ a w) (hQ:∀ O N h7 a' w',cW c O N h7 a' w'->K O->Q .normal a' w') (Y:ku π ops=true) (Z:bo P c.N (c1 π ops) (c1 π ops).toList sos=true) (u3:vp true P c.N (c1 π ops) sos (sos.map bF) 0 (c1 π ops).toList sos=true) (h:aD P K sos σ):
  (Code.region id ops true).wp P Q a w:=wp_region_any l (Hf D hQ Y Z u3 h)
def eH (ops:Array Oper) (j i:Nat):Array Oper:=match ops[j]? with
 |some o=>ops.setIfInBounds j {o with after:=o.after.push ⟨i,.data⟩}
 |none=>ops
theorem pW (ho:ops[k]?=some o):(eH ops j i)[k]?=some {o with after:=if k=j then o.after.push ⟨i,.data⟩ else o.after}:=by
 unfold eH
 by_cases hk:k=j
 ·subst hk
  have X:k<ops.size:=(Ts.1 ho).1
  simp only[ho,TB]
  simp[X]
 ·simp only[hk,Tq]
  cases hj:ops[j]? with
  |none=>exact ho
  |some oj=>simp only;rw[Array.getElem?_setIfInBounds_ne (Ne.symm hk)];exact ho
theorem C6 (ho:ops[k]?=none):(eH ops j i)[k]?=none:=by
 unfold eH
 cases hj:ops[j]? with
 |none=>exact ho
 |some oj=>
  have:ops.size<=k:=by simpa using ho
  simp;omega
theorem nS:(eH ops j i).size=ops.size:=by
 unfold eH;cases ops[j]?<;>simp
theorem rg:k∈Region.ready .any (eH ops j i) r↔k∈Region.ready .any ops r/\(k=j->r.getD i false=true):=by
 rw[mem_ready,mem_ready]
 constructor
 ·rintro⟨h1,o',ho',h2⟩
  cases ho:ops[k]? with
  |none=>rw[C6 ho] at ho';cases ho'
  |some o=>
   rw[pW ho] at ho'
   simp only[SN] at ho'
   subst ho'
   refine⟨⟨h1,o,rfl,fun e he hb=>h2 e ?_ hb⟩,fun hk=> ?_⟩
   ·dsimp only;split
    ·exact Array.mem_push.2 (.inl he)
    ·exact he
   ·exact h2 ⟨i,.data⟩ (by dsimp only;rw[if_pos hk];exact Array.mem_push.2 (.inr rfl)) rfl
 ·rintro⟨⟨h1,o,ho,h2⟩,E⟩
  refine⟨h1,_,pW ho,fun e he hb=> ?_⟩
  dsimp only at he
  split at he
  ·rename_i hk
   rcases Array.mem_push.1 he with he|rfl
   ·exact h2 e he hb
   ·exact E hk
  ·exact h2 e he hb
theorem rh {K:Act->World->Prop} (ho:ops[k]?=some o) (hg:o.guard=none):wpOp P ops Q k K a w↔(o.wp P a w K Q\/(o.asks P a w/\LetsOut Q)):=by
 have G:Region.wanted o (yielded ops a.tmps)=true:=by simp[Region.wanted,hg]
 unfold wpOp
 simp only[ho,G,TB]
theorem xF {K:Act->World->Prop} (ho:ops[k]?=some o) (hg:o.guard=none):wpOp P (eH ops j i) Q k K a w↔(o.wp P a w K Q\/(o.asks P a w/\LetsOut Q)):=by
 have h:=rh (P:=P) (Q:=Q) (K:=K) (a:=a) (w:=w) (o:={o with after:=if k=j then o.after.push ⟨i,.data⟩ else o.after}) (pW (j:=j) (i:=i) ho) hg
 exact h
theorem AQ (hg:∀ (k:Nat) (o:Oper),ops[k]?=some o->o.guard=none):∀ (u:Nat) (r:Array Bool) (a:Act) (w:World),r.getD i false=true->
  wpAny P .any (eH ops j i) Q u r a w->wpAny P .any ops Q u r a w:=by
 intro u
 have B:∀ r:Array Bool,r.getD i false=true->∀ k,k∈Region.ready .any (eH ops j i) r↔k∈Region.ready .any ops r:=fun r hl k=>by
  rw[rg];exact⟨fun h=>h.1,fun h=>⟨h,fun _=>hl⟩⟩
 have q:∀ r:Array Bool,r.getD i false=true->(Region.ready .any ops r=[]↔Region.ready .any (eH ops j i) r=[]):=fun r hl=>by
  simp only[List.eq_nil_iff_forall_not_mem,B r hl]
 induction u with
 |zero=>intro r a w hl h;exact⟨(q r hl).2 h.1,h.2⟩
 |succ u ih=>
  intro r a w hl h
  refine⟨fun hn=>h.1 ((q r hl).1 hn),fun k hk=> ?_⟩
  obtain⟨_,o,ho,_⟩:=mem_ready.1 hk
  have E:=(xF ho (hg k o ho)).1 (h.2 k ((B r hl k).2 hk))
  exact(rh ho (hg k o ho)).2 (E.imp (Oper.wp_mono fun a' w'=>ih _ a' w' (getD_set_true hl)) id)
def AR (i:Nat) (ops:Array Oper) (π:List Nat) (p s2:List SO):Bool:=
 ops.all (fun o=>o.guard==none)&&decide (i+1<ops.size)&&(List.range i).all (fun k=>π[k]?==some k&& !fX p k)&&π[i]?==some (i+1)&&π[i+1]?==some i&&fX p i&&fX s2 i&&(List.range ops.size).all (fun k=>decide (k<i+2)||π[k]?==some k)
theorem uD (h6:∀ (i:Nat) o,r.getD i false=true->ops[i]?=some o->∀ e∈o.after,Region.binds .any e=true->r.getD e.on false=true) {m:Nat} (hj:r.getD j false=false):
  ∀ (x:Nat) o,r.getD x false=true->(eH ops j m)[x]?=some o->∀ e∈o.after,Region.binds .any e=true->r.getD e.on false=true:=fun x o hx ho e he hb=>by
 cases u0:ops[x]? with
 |none=>rw[C6 u0] at ho;cases ho
 |some o'=>
  rw[pW u0] at ho
  simp only[SN] at ho;subst ho
  have U:x≠j:=fun h=>by rw[h,hj] at hx;cases hx
  simp only[U,Tq] at he
  exact h6 x o' hx u0 e he hb
theorem Hg {l C:List SO} {S1 S2:Nat->St} (hQ:∀ O N h7 a' w',cW c O N h7 a' w'->K O->Q .normal a' w') (J:AR i ops π l C=true) (v7:l.take i=pre) (v8:C.take i=pre) (u9:pre.length=i) (Z:bo P c.N (eH ops (i+1) i) (eH ops (i+1) i).toList l=true) (r9:JI P c.N (eH ops (i+1) i) l (l.map bF) 0 (eH ops (i+1) i).toList l=true) (Y:ku π (eH ops i (i+1))=true) (r7:bo P c.N (c1 π (eH ops i (i+1))) (c1 π (eH ops i (i+1))).toList C=true) (s5:JI P c.N (c1 π (eH ops i (i+1))) C (C.map bF) 0 (c1 π (eH ops i (i+1))).toList C=true) (v0:∀ (j:Nat) (so:SO),l[j]?=some so->JG P so (S1 j) (S1 (j+1))) (w4:K (S1 l.length)) (qf:∀ (j:Nat) (so:SO),C[j]?=some so->JG P so (S2 j) (S2 (j+1))) (w6:K (S2 C.length)) (qg:S2 i=S1 i):
  ∀ (u:Nat) (r:Array Bool) (κ:Nat->Value) (φ:Nat->List Nat) (a:Act) (w:World),r.size=ops.size->(yx ops.size r).length=u->
   (∀ (x:Nat) o,r.getD x false=true->ops[x]?=some o->∀ e∈o.after,Region.binds .any e=true->r.getD e.on false=true)->(∀ k,i<=k->r.getD k false=false)->
   cW c ⟨er (b6 (l.map bF) i (fun k=>r.getD k false)) (S1 i).s,(S1 i).h⟩ κ φ a w->wpAny P .any ops Q u r a w:=by
 simp only[AR,SR,S5,Ti,TN,S_,TI,TE] at J
 obtain⟨⟨⟨⟨⟨⟨⟨u8,F⟩,G⟩,qm⟩,qn⟩,w7⟩,qh⟩,qi⟩:=J
 have hg:∀ (k:Nat) (o:Oper),ops[k]?=some o->o.guard=none:=fun k o ho=>by
  have:=(Un.1 u8) o (Array.mem_of_getElem? ho)
  simpa using this
 obtain⟨s3,v2⟩:=fU Z
 have qj:l.length=ops.size:=by simp[nS] at s3;omega
 have A:(c1 π (eH ops i (i+1))).size=ops.size:=by
  have m:=Y
  simp only[ku,SR,S_,Ti,S5] at m
  unfold c1
  rw[iK (g:=fun k=>{((eH ops i (i+1)).getD k ⟨none,.move (.tmp 0),0, "",#[],none⟩) with after:=(((eH ops i (i+1)).getD k ⟨none,.move (.tmp 0),0, "",#[],none⟩).after.map fun e=>{e with on:=π.idxOf e.on})})]
  ·have:=m.1.1.1.1;simp[nS] at this⊢;exact this
  ·intro k hk
   have:=m.1.1.1.2 k hk
   simp[this]
 have r5:C.length=ops.size:=by
  obtain⟨h,_⟩:=fU r7
  have e:(c1 π (eH ops i (i+1))).toList.length=ops.size:=by rw[Array.length_toList];exact A
  omega
 have s1:∀ y,y<i->π.idxOf y=y:=fun y hy=>by
  have h1:=(G y hy).1
  have r6:π.Nodup:=by
   have m:=Y
   simp only[ku,SR,S5] at m
   exact m.1.2
  obtain⟨X,he⟩:=SY.1 h1
  have h5:y∈π:=SW h1
  have s7:=List.idxOf_lt_length_iff.2 h5
  have h2:=List.getElem_idxOf s7
  exact(List.getElem_inj r6).1 (h2.trans he.symm)
 have u2:∀ k,k<i->(C.map bF)[k]?=(l.map bF)[k]?:=fun k hk=>by
  have e1:l[k]?=pre[k]?:=by rw[<-v7,Um hk]
  have e2:C[k]?=pre[k]?:=by rw[<-v8,Um hk]
  simp[e1,e2]
 intro u
 induction u with
 |zero=>
  intro r κ φ a w L hu _ V D
  exfalso
  have:i∈yx ops.size r:=by
   simp only[yx,U3,TN]
   refine⟨by omega, ?_⟩
   have h0:=V i (SZ _)
   have:i<r.size:=by omega
   simp[this] at h0⊢;exact h0
  rw[Ta.1 hu] at this;simp at this
 |succ u ih=>
  intro r κ φ a w L hu h6 V D
  have v4:wpAny P .any (eH ops (i+1) i) Q (u+1) r a w:=
   vt (c:=c) hQ Z (z:=fun _=> .d .any) (fun _ _=>rfl) (fun h=>by cases h) (fun _=> .inl rfl) r9 v0 w4 (u+1) r i κ φ a w (by rw[nS];exact L) (by rw[nS];exact hu) (uD h6 (V (i+1) oM)) oM
    (fun k hk hx=>by rw[(G k hk).2] at hx;cases hx) (.inr ⟨by omega,w7⟩) V D
  have w8:wpAny P .any (eH ops i (i+1)) Q (u+1) r a w:=by
   refine AP Y (u+1) r r a w (by rw[nS];exact L) (by rw[nS];exact L) (fun k y hk=> ?_) ?_
   ·rcases Ty k i with r3|r3
    ·rw[(G k r3).1] at hk;simp at hk;rw[hk]
    ·have hy:i<=y:=by
      rcases Ty y i with w0|w0
      ·exfalso
       have h1:=(G y w0).1
       have r6:π.Nodup:=by
        have m:=Y
        simp only[ku,SR,S5] at m
        exact m.1.2
       obtain⟨M,e1⟩:=SY.1 h1
       obtain⟨l2,e2⟩:=SY.1 hk
       have:=(List.getElem_inj r6).1 (e1.trans e2.symm)
       omega
      ·exact w0
     rw[V k r3,V y hy]
   ·refine vt (c:=c) hQ r7 (z:=fun _=> .d .any) (fun _ _=>rfl) (fun h=>by cases h) (fun _=> .inl rfl) s5 qf w6 (u+1) r i κ φ a w (by rw[A];exact L) (by rw[A];exact hu) ?_ oM (fun k hk hx=> ?_) (.inr ⟨by omega,qh⟩) V ?_
    ·intro x o hx ho e he hb
     have v5:x<i:=by
      rcases Ty x i with h|h
      ·exact h
      ·rw[V x h] at hx;cases hx
     cases u0:ops[x]? with
     |none=>
          have:ops.size<=x:=by simpa using u0
          omega
     |some ox=>
      have w9:=(G x v5).1
      have R:(c1 π (eH ops i (i+1)))[x]?=some {ox with after:=ox.after.map fun e=>{e with on:=π.idxOf e.on}}:=by
       have m:=Y
       simp only[ku,SR,S_,Ti,S5] at m
       unfold c1
       rw[iK (g:=fun k=>{((eH ops i (i+1)).getD k ⟨none,.move (.tmp 0),0, "",#[],none⟩) with after:=(((eH ops i (i+1)).getD k ⟨none,.move (.tmp 0),0, "",#[],none⟩).after.map fun e=>{e with on:=π.idxOf e.on})})]
       ·have U:x≠i:=by omega
        have:=pW (j:=i) (i:=i+1) u0
        simp only[U,Tq] at this
        simp[w9,this]
       ·intro k hk
        have:=m.1.1.1.2 k hk
        simp[this]
      rw[R] at ho
      simp only[SN] at ho;subst ho
      simp only[Array.mem_map] at he
      obtain⟨e0,v9,rfl⟩:=he
      have h1:=h6 x ox hx u0 e0 v9 hb
      have X:e0.on<i:=by
       rcases Ty e0.on i with h|h
       ·exact h
       ·rw[V _ h] at h1;cases h1
      simp only[s1 _ X];exact h1
    ·have e1:l[k]?=pre[k]?:=by rw[<-v7,Um hk]
     have e2:C[k]?=pre[k]?:=by rw[<-v8,Um hk]
     have E:=(G k hk).2
     simp only[fX,e2] at hx
     simp only[fX,e1] at E
     rw[E] at hx;cases hx
    ·rw[qg]
     have:b6 (C.map bF) i (fun k=>r.getD k false)=b6 (l.map bF) i (fun k=>r.getD k false):=by
      funext t
      apply propext
      constructor
      ·rintro⟨k,h1,h2,E⟩;exact⟨k,h1,by rw[<-u2 k h1];exact h2,E⟩
      ·rintro⟨k,h1,h2,E⟩;exact⟨k,h1,by rw[u2 k h1];exact h2,E⟩
     rw[this];exact D
  have q:Region.ready .any ops r=[]->Region.ready .any (eH ops (i+1) i) r=[]:=fun h=>by
   rw[List.eq_nil_iff_forall_not_mem] at *
   exact fun k hk=>h k (rg.1 hk).1
  refine⟨fun hn=>v4.1 (q hn),fun k hk=> ?_⟩
  obtain⟨h0,o,ho,h9⟩:=mem_ready.1 hk
  have qd:k<r.size:=by rw[L];exact(Ts.1 ho).1
  have I:(r.setIfInBounds k true).getD k false=true:=by simp[qd]
  by_cases r3:k=i
  ·subst r3
   have E:=(xF ho (hg k o ho)).1 (v4.2 k (rg.2 ⟨hk,fun h=>by omega⟩))
   exact(rh ho (hg k o ho)).2 (E.imp (Oper.wp_mono fun a' w'=>AQ hg u _ a' w' I) id)
  by_cases S:k=i+1
  ·subst S
   have E:=(xF ho (hg _ o ho)).1 (w8.2 (i+1) (rg.2 ⟨hk,fun h=>by omega⟩))
   exact(rh ho (hg _ o ho)).2 (E.imp (Oper.wp_mono fun a' w'=>AQ hg u _ a' w' I) id)
  have qo:r.getD k false=false:=by
   simp only[TH] at h0⊢
   simpa[qd] using h0
  have v6:=vh h6 ho h9 oM
  have s8:∀ x,(r.setIfInBounds k true).getD x false=(r.getD x false||x==k):=fun x=>by
   by_cases u4:k=x
   ·subst u4;simp[qd]
   ·rw[getD_set_ne false u4];simp[Ne.symm u4]
  have u5:∀ (j:Nat) oj so,(eH ops (i+1) i)[j]?=some oj->l[j]?=some so->sN false P c.N (eH ops (i+1) i) l (l.map bF) j oj so=true:=fun j oj so h1 h2=>by
   have:=pV r9 j oj so (by simpa using h1) h2
   simpa using this
  have qa:(eH ops (i+1) i)[k]?=some o:=by
   have:=pW (j:=i+1) (i:=i) ho
   simpa only[S,Tq] using this
  have r1:k<l.length:=by omega
  obtain⟨so,B⟩:∃ so,l[k]?=some so:=⟨_,S0 r1⟩
  have u6:=u5 k o so qa B
  have qb:k<i:=by
   rcases Ty k i with h|h
   ·exact h
   ·exfalso
    obtain⟨s0,r0⟩:∃ s0,l[i]?=some s0:=⟨_,S0 oM⟩
    simp only[sN,SR] at u6
    have h1:=Ti.1 u6.2 i (TN.2 oM)
    have u7:yF s0=true:=by simpa[fX,r0] using w7
    simp only[r0,u7,TB] at h1
    have qc:∀ (x:Nat) ox,(r.setIfInBounds k true).getD x false=true->(eH ops (i+1) i)[x]?=some ox->∀ e∈ox.after,Region.binds .any e=true->(r.setIfInBounds k true).getD e.on false=true:=
     uD v6 (by rw[s8,V (i+1) oM];simp;omega)
    have h2:=i1 qc k [k] (by simp[s8]) h1
    rw[s8,V i (SZ _)] at h2
    simp at h2;omega
  have hX:yF so=false:=by have:=(G k qb).2;simpa[fX,B] using this
  obtain⟨d,v,hd,hy,he⟩:=wo hX (v0 k so B)
  have w5:bF so=some d:=by cases so<;>first|exact hd|simp[yF] at hX
  have qe:(l.map bF)[k]?=some (some d):=by simp[B,w5]
  have s6:∀ (b:Nat),(l.map bF)[b]?=some (some d)->b=k:=fun b hb=>by
   have r4:=u6
   simp only[sN,SR] at r4
   have:=Ti.1 r4.1.2 b (TN.2 (SY.1 hb).1)
   simpa[qe,hb] using this
  have T:pU false (RM so) (Ih so) (eH ops (i+1) i) l (l.map bF) k o (Jq so)=true:=by
   have r4:=u6
   simp only[sN,SR] at r4
   have:=r4.1.1.2
   cases so<;>first|exact this|simp[yF] at hX
  have u1:∀ t,.t t∈Jq so->¬ b6 (l.map bF) i (fun x=>r.getD x false) t/\∀ b:Nat,(l.map bF)[b]?=some (some t)->b<k\/i<=b:=fun t ht=>by
   have v1:∀ p:Nat,fX l p=true->i<=p:=fun p Y=>by
    rcases Ty p i with h|h
    ·rw[(G p h).2] at Y;cases Y
    ·exact h
   refine⟨fun⟨b,v3,s4,r8⟩=> ?_,fun b hb=> ?_⟩
   ·rcases re T ht s4 with⟨_,e,he,w2,rfl⟩|⟨p,h1,h2,E,h4⟩|⟨k1,_⟩
    ·simp only[h9 e he w2] at r8;cases r8
    ·have:=v1 p E;omega
    ·cases k1
   ·rcases re T ht hb with⟨h,_⟩|⟨p,h1,h2,E,h4⟩|⟨k1,_⟩
    ·exact .inl h
    ·exact .inr (by have:=v1 p E;omega)
    ·cases k1
  obtain⟨q1,W⟩:=wq v0 (a:=k) i oM oM (fun x hx H=>(G x H).2)
  obtain⟨q3,q4⟩:=wq v0 (a:=k+1) i oM oM (fun x hx H=>(G x H).2)
  have hv:(S1 i).s d=v:=by
   rw[q4 d fun x hx H h=>by have:=s6 x h;omega,he]
   simp[ar]
  have w1:am (er (b6 (l.map bF) i (fun x=>r.getD x false)) (S1 i).s) d ((S1 i).s d)=er (b6 (l.map bF) i (fun x=>(r.setIfInBounds k true).getD x false)) (S1 i).s:=by
   funext t
   by_cases ht:t=d
   ·subst ht
    rw[ar,AH]
    rintro⟨x,_,s9,u3⟩
    have:=s6 x s9
    subst this
    simp[s8] at u3
   ·rw[aY _ _ _ _ ht]
    by_cases hU:b6 (l.map bF) i (fun x=>r.getD x false) t
    ·rw[LB hU,LB]
     obtain⟨x,u7,s9,u3⟩:=hU
     refine⟨x,u7,s9, ?_⟩
     simp only[s8,u3,T7,UW,ne_eq]
     intro u4
     subst u4
     rw[qe] at s9;simp at s9;exact ht s9.symm
    ·rw[AH hU,AH]
     rintro⟨x,u7,s9,u3⟩
     exact hU ⟨x,u7,s9,by simp only[s8,TS] at u3;exact u3.1⟩
  have qk:kr P c.N ops o so=true:=by
   have:=v2 k o so (by simpa using qa) B
   have ql:=hg k o ho
   cases so<;>first
    |exact this
    |(simp only[kr,ql] at this⊢;first|exact this|(simp at this))
  have s2:YS P (S1 i).h so (er (b6 (l.map bF) i (fun x=>r.getD x false)) (S1 i).s) ((S1 i).s d):=by
   rw[hv,q1]
   refine wi (s:=(S1 k).s) (fun x hx=> ?_) hy
   cases x with
   |t n=>
    obtain⟨o1,o2⟩:=u1 n hx
    show(S1 k).s n=er _ (S1 i).s n
    rw[AH o1,W n fun x hx H h=>by have:=o2 x h;omega]
   |c v=>rfl
   |f i=>rfl
  have w3:(yx ops.size (r.setIfInBounds k true)).length=u:=by
   have:=D2 oM L h0
   omega
  unfold wpOp
  simp only[ho]
  refine wm D qk (CS hd s2) fun O N h7 a' w' h8 r2=> ?_
  subst r2
  refine ih (r.setIfInBounds k true) N h7 a' w' (by simp[L]) w3 v6 ?_ ?_
  ·intro x hx;rw[s8,V x hx];simp;omega
  ·rw[<-w1];exact h8
theorem El (l:P.follows .mixedOrders=true) {x1 x2:SO} {post:List SO} (D:cW c σ κ φ a w) (u9:pre.length=i) (hQ:∀ O N h7 a' w',cW c O N h7 a' w'->K O->Q .normal a' w') (J:AR i ops π (pre++x1::x2::post) (pre++x2::x1::post)=true) (Z:bo P c.N (eH ops (i+1) i) (eH ops (i+1) i).toList (pre++x1::x2::post)=true) (r9:JI P c.N (eH ops (i+1) i) (pre++x1::x2::post) ((pre++x1::x2::post).map bF) 0 (eH ops (i+1) i).toList (pre++x1::x2::post)=true) (v8:ku π (eH ops i (i+1))=true) (r7:bo P c.N (c1 π (eH ops i (i+1))) (c1 π (eH ops i (i+1))).toList (pre++x2::x1::post)=true) (s5:JI P c.N (c1 π (eH ops i (i+1))) (pre++x2::x1::post) ((pre++x2::x1::post).map bF) 0 (c1 π (eH ops i (i+1))).toList (pre++x2::x1::post)=true) (h:∃ S:Nat->St,S 0=σ/\(∀ (j:Nat) (so:SO),pre[j]?=some so->JG P so (S j) (S (j+1)))/\aD P K (x1::x2::post) (S i)/\aD P K (x2::x1::post) (S i)):(Code.region id ops true).wp P Q a w:=by
 obtain⟨S,h0,hS,hA,hB⟩:=h
 have b:∀ (z:List SO),(∀ so∈z,Pe so=true)->aD P K z (S i)->∃ n:Nat->St,(∀ k,k<=i->n k=S k)/\(∀ (j:Nat) (so:SO),(pre++z)[j]?=some so->JG P so (n j) (n (j+1)))/\K (n (pre++z).length):=fun z r5 D=>by
  obtain⟨R,r0,r1,r2⟩:=zx z (S i) r5 D
  refine⟨fun k=>if k<=i then S k else R (k - i),fun k hk=>by simp[hk],fun j so hj=> ?_, ?_⟩
  ·rcases Ty j i with X|v0
   ·rw[TP oM] at hj
    have h1:j<=i:=by omega
    have h2:j+1<=i:=by omega
    simp only[h1,h2,TB]
    exact hS j so hj
   ·rw[Tr oM] at hj
    have h2:¬ j+1<=i:=by omega
    have e:j+1 - i=(j - pre.length)+1:=by omega
    have:=r1 (j - pre.length) so hj
    simp only[h2,Tq]
    by_cases f:j=i
    ·have e2:j - pre.length=0:=by omega
     rw[e2,r0] at this
     have E:j<=i:=by omega
     simp only[E,TB]
     rw[e,e2,f];exact this
    ·have E:¬ j<=i:=by omega
     simp only[E,Tq]
     rw[e]
     have U:j - i=j - pre.length:=by omega
     rw[U];exact this
  ·have h5:(pre++z).length - i=z.length:=by rw[SS];omega
   by_cases hz:z.length=0
   ·have:z=[]:=Ta.1 hz
    subst this
    have h6:(pre++([]:List SO)).length<=i:=by simp;omega
    simp only[h6,TB]
    have p:(pre++([]:List SO)).length=i:=by simp;omega
    rw[p]
    simpa[aD] using D
   ·have h6:¬ (pre++z).length<=i:=by rw[SS];omega
    simp only[h6,Tq,h5];exact r2
 have m:∀ so∈(x1::x2::post),Pe so=true:=fun so B=>by
  obtain⟨j,hj,r4⟩:=Vb B
  obtain⟨s3,_⟩:=fU Z
  have hl:(pre++x1::x2::post)[pre.length+j]?=some so:=by rw[Tr oM];simp[S0 hj,r4]
  have X:pre.length+j<(eH ops (i+1) i).size:=by have:=(SY.1 hl).1;simp at s3 this;simp;omega
  have:=pV r9 (pre.length+j) (eH ops (i+1) i)[pre.length+j] so (by simp[X]) hl
  simp only[sN,SR] at this
  exact this.1.1.1.1
 have g:∀ so∈(x2::x1::post),Pe so=true:=fun so B=>m so (by simp at B⊢;rcases B with h|h|h<;>simp[h])
 obtain⟨S1,M,a2,a3⟩:=b _ m hA
 obtain⟨S2,b1,b2,u⟩:=b _ g hB
 have d:=J
 simp only[AR,SR,S5,Ti,TN,S_,TI,TE] at d
 obtain⟨⟨⟨⟨⟨⟨⟨_,F⟩,G⟩,_⟩,_⟩,_⟩,_⟩,_⟩:=d
 refine wp_region_any l ?_
 have V:∀ k,(Array.replicate ops.size false).getD k false=false:=fun k=>by
  by_cases hi:k<ops.size<;>simp[hi]
 have r3:∃ N h7,cW c ⟨er (b6 ((pre++x1::x2::post).map bF) i (fun k=>(Array.replicate ops.size false).getD k false)) σ.s,σ.h⟩ N h7 a w:=
  pT (σ:=σ) (O:=⟨er (b6 ((pre++x1::x2::post).map bF) i (fun k=>(Array.replicate ops.size false).getD k false)) σ.s,σ.h⟩) (fun t=>by
   by_cases hU:b6 ((pre++x1::x2::post).map bF) i (fun k=>(Array.replicate ops.size false).getD k false) t
   ·exact .inr (LB hU)
   ·exact .inl (AH hU)) (fun _=> .inl rfl) _ _ _ _ _ D
 obtain⟨N,h7,h8⟩:=r3
 refine Hg (c:=c) (pre:=pre) hQ J (by rw[List.take_left' u9]) (by rw[List.take_left' u9]) u9 Z r9 v8 r7 s5 a2 a3 b2 u (by rw[M i (SZ _),b1 i (SZ _)]) ops.size _ N h7 a _ oS ?_ ?_ (fun k _=>V k) ?_
 ·have:yx ops.size (Array.replicate ops.size false)=List.range ops.size:=by
   unfold yx
   rw[List.filter_eq_self]
   intro k hk
   simp at hk
   simp[hk]
  rw[this];simp
 ·intro x o hx
  rw[V] at hx;cases hx
 ·obtain⟨q1,W⟩:=wq a2 (a:=0) i oM (by rw[SS];omega) (fun k _ hk=>(G k hk).2)
  rw[q1,M 0 oM,h0]
  have:er (b6 ((pre++x1::x2::post).map bF) i (fun k=>(Array.replicate ops.size false).getD k false)) (S1 i).s=er (b6 ((pre++x1::x2::post).map bF) i (fun k=>(Array.replicate ops.size false).getD k false)) σ.s:=by
   refine LC fun t ht=> ?_
   rw[W t fun k _ hk he=>ht ⟨k,hk,he,V k⟩,M 0 oM,h0]
  rw[this]
  exact h8.grown ((Below.refl _ _).drew)
end Go.Proofs.YtgmnipfafmphaaaGreatDoor

