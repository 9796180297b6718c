/-
  My text.
-/
import Derived.Test.YteaolfcegaidpaaGreatDoorSYEngK
namespace Go.Proofs.YteaolfcegaidpaaGreatDoor
set_option linter.unusedSimpArgs false
set_option linter.unusedVariables false
open Go.RowKit
def Ez:IV->List SX
 | .boxM x=>[x]
 | .st _ p v=>[p,v]
 | .app _ _ x y=>[x,y]
 | .appS _ x y=>[x,y]
 | .mkmap _=>[]
 | .mset _ m k v=>[m,k,v]
 | .trunc _ x hi=>[x,hi]
 | .slM _ _ xs=>xs
 | .mkS _ _ _ x y=>[x,y]
 | .bldM _ _=>[]
def ry (d:Nat):IV->Option Nat
 | .st _ _ _=>none
 | .mset _ _ _ _=>none
 |_=>some d
def Cp:SO->Bool
 | .x _ _ _=>true
 | .q _ _ _ _=>true
 |_=>false
def dh:SO->Option Nat
 | .x d op _=>ry d op
 | .q d _ _ _=>some d
 |so=>kl so
def Ox:SO->List SX
 | .x _ op _=>Ez op
 | .q _ f args _=>f::args
 |so=>Jj so
def N6 (so:SO):Bool:=Cp so||(kl so).isSome
open Classical in
noncomputable def pE (z:Nat->SV) (U:Nat->Prop) (s:Nat->SV):Nat->SV:=fun t=>if U t then z t else s t
theorem fl {z:Nat->SV} {U:Nat->Prop} {s:Nat->SV} {t:Nat} (h:¬ U t):pE z U s t=s t:=by unfold pE;simp[h]
theorem oq {z:Nat->SV} {U:Nat->Prop} {s:Nat->SV} {t:Nat} (h:U t):pE z U s t=z t:=by unfold pE;simp[h]
theorem H8 {z:Nat->SV} {U:Nat->Prop} {s s':Nat->SV} (h:∀ t,¬ U t->s t=s' t):pE z U s=pE z U s':=by
 funext t
 by_cases hu:U t
 ·rw[oq hu,oq hu]
 ·rw[fl hu,fl hu,h t hu]
theorem lA {z:Nat->SV} {U:Nat->Prop} {s:Nat->SV} {x:SX} (h:∀ t,x= .t t->¬ U t):ev (pE z U s) x=ev s x:=by
 cases x with
 |t n=>exact fl (h n rfl)
 |c v=>rfl
 |f i=>rfl
theorem jy {z:Nat->SV} {U:Nat->Prop} {s:Nat->SV} {id d:Nat} {v:SV} (hz:∀ i t,fQ i .any (z t)=z t):aH (gn id .any (pE z U s)) d v=pE z (fun t=>U t/\t≠d) (aH (gn id .any s) d v):=by
 funext t
 by_cases ht:t=d
 ·subst ht;rw[an,fl oS,an]
 ·rw[bf _ _ _ _ ht]
  by_cases hu:U t
  ·rw[oq (U:=fun t=>U t/\t≠d) ⟨hu,ht⟩];simp[gn,oq hu,hz]
  ·rw[fl (U:=fun t=>U t/\t≠d) (fun h=>hu h.1),bf _ _ _ _ ht];simp[gn,fl hu]
theorem JP {z:Nat->SV} (hz:∀ i t,fQ i .any (z t)=z t) {U:Nat->Prop} {σ σ':St} {d:Nat} {op:IV} {p:Prop} (h:wr σ d op=some (p,σ')) (hx:∀ x∈Ez op,∀ t,x= .t t->¬ U t):
  wr ⟨pE z U σ.s,σ.h⟩ d op=some (p,⟨pE z (fun t=>U t/\ry d op≠some t) σ'.s,σ'.h⟩):=by
 have same:∀ s:Nat->SV,pE z (fun t=>U t/\(none:Option Nat)≠some t) s=pE z U s:=fun s=>by congr 1;funext t;simp
 have one:∀ s:Nat->SV,pE z (fun t=>U t/\(some d:Option Nat)≠some t) s=pE z (fun t=>U t/\t≠d) s:=fun s=>by
  congr 1;funext t;simp only[ne_eq,Oy,eq_comm]
 cases op with
 |boxM x=>
  have h1:=lA (z:=z) (s:=σ.s) (hx x (by simp[Ez]))
  simp only[wr,ry,h1,one] at h⊢
  split at h
  ·simp only[Oy,OB] at h
   obtain⟨rfl,rfl⟩:=h
   simp only[St.swap,jy hz]
  ·cases h
 |st n x y=>
  have h1:=lA (z:=z) (s:=σ.s) (hx x (by simp[Ez]))
  have h2:=lA (z:=z) (s:=σ.s) (hx y (by simp[Ez]))
  simp only[wr,ry,h1,h2,same] at h⊢
  split at h
  ·split at h
   ·rename_i h3 h4
    simp only[Oy,OB] at h
    obtain⟨rfl,rfl⟩:=h
    simp only
   ·cases h
  ·split at h
   ·split at h
    ·rename_i h5
     simp only[Oy,OB] at h
     obtain⟨rfl,rfl⟩:=h
     simp only
    ·cases h
   ·cases h
  ·cases h
 |app e sz x y=>
  have h1:=lA (z:=z) (s:=σ.s) (hx x (by simp[Ez]))
  have h2:=lA (z:=z) (s:=σ.s) (hx y (by simp[Ez]))
  simp only[wr,ry,h1,h2,one] at h⊢
  split at h
  ·split at h
   ·simp only[Oy,OB] at h
    obtain⟨rfl,rfl⟩:=h
    simp only[c6,St.swap,jy hz]
   ·cases h
  ·simp only[Oy,OB] at h
   obtain⟨rfl,rfl⟩:=h
   simp only[c6,St.swap,jy hz]
  ·simp only[Oy,OB] at h
   obtain⟨rfl,rfl⟩:=h
   simp only[c6,St.swap,jy hz]
  ·cases h
 |appS e x y=>
  have h1:=lA (z:=z) (s:=σ.s) (hx x (by simp[Ez]))
  have h2:=lA (z:=z) (s:=σ.s) (hx y (by simp[Ez]))
  simp only[wr,ry,h1,h2,one] at h⊢
  split at h
  ·split at h
   ·simp only[Oy,OB] at h
    obtain⟨rfl,rfl⟩:=h
    simp only[c6,St.swap,jy hz]
   ·cases h
  ·simp only[Oy,OB] at h
   obtain⟨rfl,rfl⟩:=h
   simp only[c6,St.swap,jy hz]
  ·cases h
 |bldM T e=>
  simp only[wr,ry,one,Oy,OB] at h⊢
  obtain⟨rfl,rfl⟩:=h
  simp only[St.swap,jy hz,and_self]
 |mkmap kk=>
  simp only[wr,ry,one,Oy,OB] at h⊢
  obtain⟨rfl,rfl⟩:=h
  simp only[St.swap,jy hz,and_self]
 |mset kk m k v=>
  have h1:=lA (z:=z) (s:=σ.s) (hx m (by simp[Ez]))
  have h2:=lA (z:=z) (s:=σ.s) (hx k (by simp[Ez]))
  have h3:=lA (z:=z) (s:=σ.s) (hx v (by simp[Ez]))
  simp only[wr,ry,h1,h2,h3,same] at h⊢
  split at h
  ·split at h
   ·simp only[Oy,OB] at h
    obtain⟨rfl,rfl⟩:=h
    simp only
   ·cases h
  ·cases h
 |mkS e sz z' x y=>
  have h1:ev (pE z U σ.s) x=ev σ.s x:=lA (hx x (by simp[Ez]))
  have h2:ev (pE z U σ.s) y=ev σ.s y:=lA (hx y (by simp[Ez]))
  simp only[wr,ry,h1,h2,one] at h⊢
  split at h
  ·simp only[Oy,OB] at h
   obtain⟨rfl,rfl⟩:=h
   simp only[c6,St.swap,jy hz]
  ·cases h
 |slM e sz xs=>
  have h1:xs.map (ev (pE z U σ.s))=xs.map (ev σ.s):=PM fun x hx'=>lA (hx x (by simpa only[Ez] using hx'))
  simp only[wr,ry,h1,one] at h⊢
  split at h
  ·simp only[Oy,OB] at h
   obtain⟨rfl,rfl⟩:=h
   simp only[c6,St.swap,jy hz]
  ·cases h
 |trunc sz x hi=>
  have h1:=lA (z:=z) (s:=σ.s) (hx x (by simp[Ez]))
  have h2:=lA (z:=z) (s:=σ.s) (hx hi (by simp[Ez]))
  simp only[wr,ry,h1,h2,one] at h⊢
  split at h
  ·split at h
   ·simp only[Oy,OB] at h
    obtain⟨rfl,rfl⟩:=h
    simp only[c6,St.swap,jy hz]
   ·cases h
  ·cases h
theorem Fj {z:Nat->SV} (hz:∀ i t,fQ i .any (z t)=z t) {U:Nat->Prop} {σ σ':St} {d:Nat} {L:List (Nat×Ch)} {res:SV} (h:takes σ L (some d) res=some σ'):takes ⟨pE z U σ.s,σ.h⟩ L (some d) res=some ⟨pE z (fun t=>U t/\(some d:Option Nat)≠some t) σ'.s,σ'.h⟩:=by
 have one:∀ s:Nat->SV,pE z (fun t=>U t/\(some d:Option Nat)≠some t) s=pE z (fun t=>U t/\t≠d) s:=fun s=>by
  congr 1;funext t;simp only[ne_eq,Oy,eq_comm]
 have plainE:∀ (s:Nat->SV) (v:SV),aH (pE z U s) d v=pE z (fun t=>U t/\t≠d) (aH s d v):=fun s v=>by
  funext t
  by_cases ht:t=d
  ·subst ht;rw[an,fl oS,an]
  ·rw[bf _ _ _ _ ht]
   by_cases hu:U t
   ·rw[oq (U:=fun t=>U t/\t≠d) ⟨hu,ht⟩,oq hu]
   ·rw[fl (U:=fun t=>U t/\t≠d) (fun h=>hu h.1),bf _ _ _ _ ht,fl hu]
 unfold takes at h⊢
 simp only at h⊢
 split at h
 ·rename_i h0
  simp only[Oy] at h;subst h
  rw[Qa h0,one,plainE]
 ·rename_i h0
  rw[P7 h0]
  split at h
  ·rename_i h1
   rw[Qa h1]
   split at h
   ·rename_i m v ho
    split at h
    ·rename_i ch mk hoc
     simp only[Oy] at h;subst h
     simp only[ho,hoc,one,jy hz]
    ·cases h
   ·cases h
  ·cases h
section
variable {σ:St}
theorem BO {σ':St} (hs:∀ i,σ'.s i=σ.s i\/σ'.s i= .d .any) (hh:∀ i,σ'.h i=σ.h i\/σ'.h i= .dead):dB σ σ':=fun c κ φ a w hr=>by
 classical
 refine⟨κ,fun i=>if σ'.h i=σ.h i then φ i else[], ?_⟩
 have hsub:∀ i b,b∈(if σ'.h i=σ.h i then φ i else[])->b∈φ i:=fun i b hb=>by
  split at hb
  ·exact hb
  ·simp at hb
 have hext:lL w (own c φ) w (own c fun i=>if σ'.h i=σ.h i then φ i else[]):=lL.shrink fun b hb=>by
  rcases hb with hb|⟨i,hb⟩
  ·exact .inl hb
  ·exact .inr ⟨i,hsub i b hb⟩
 have hslot:∀ i v,ae w (own c φ) κ (σ.s i) v->ae w (own c fun i=>if σ'.h i=σ.h i then φ i else[]) κ (σ'.s i) v:=fun i v hv=>by
  rcases hs i with h|h
  ·rw[h];exact hv.ext hext
  ·rw[h];simp only[ae];unfold aQ;trivial
 refine⟨hr.chg,hr.size,hr.m0,hr.ntmps,hr.defers,hr.kok,fun i hi=>hslot i _ (hr.slots i hi),fun i v hv=>hslot _ v (hr.ghost i v hv),fun i=> ?_,fun i b hb=>hr.mine i b (hsub i b hb),fun i=> ?_,fun i j b hij hi hj=>hr.sep i j b hij (hsub i b hi) (hsub j b hj)⟩
 ·by_cases h:σ'.h i=σ.h i
  ·simp only[h,PR];exact(hr.chunks i).ext hext (fun _ _=>rfl)
  ·rcases hh i with h'|h'
   ·exact absurd h' h
   ·simp only[h,Pp];rw[h'];rfl
 ·split
  ·exact hr.nod i
  ·simp
end
def Li (P:Program) (so:SO) (σ σ':St):Prop:=
 match so with
 | .x d op late=>∃ p,wr σ d op=some (p,σ')/\p/\Co σ' late
 | .q d f args late=>∃ fid ins outs res L,ev σ.s f= .d (.fn fid [])/\cF P fid ins res outs/\res.closed=true/\HandL σ.h (args.map (ev σ.s)) ins outs L/\takes σ L (some d) res=some σ'/\Co σ' late
 |so=>∃ d v,kl so=some d/\YS P σ.h so σ.s v/\σ'=⟨aH σ.s d v,σ.h⟩
theorem BP {P:Program} {so:SO} {σ σ':St} (hx:Cp so=false) (h:Li P so σ σ'):∃ d v,kl so=some d/\YS P σ.h so σ.s v/\σ'=⟨aH σ.s d v,σ.h⟩:=by
 cases so<;>first|exact h|simp[Cp] at hx
theorem MQ {P:Program} {K:St->Prop} {so:SO} {σ:St} (hok:N6 so=true) (h:AO P so σ K):∃ σ',Li P so σ σ'/\K σ':=by
 by_cases hx:Cp so=true
 ·cases so<;>simp[Cp] at hx
  ·rename_i d op late
   simp only[AO] at h
   split at h
   ·rename_i p σ' hw;exact⟨σ',⟨p,hw,h.1,h.2.1⟩,h.2.2⟩
   ·exact h.elim
  ·rename_i d f args late
   obtain⟨fid,ins,outs,res,L,σ',h1,h2,h3,h4,h5,h6,h7⟩:=h
   exact⟨σ',⟨fid,ins,outs,res,L,h1,h2,h3,h4,h5,h6⟩,h7⟩
 ·simp only[P0] at hx
  simp only[N6,hx,Pj,Pu] at hok
  obtain⟨d,hd⟩:=hok
  obtain⟨v,hv,hk⟩:=ES hd h
  refine⟨_, ?_,hk⟩
  cases so<;>first|exact⟨d,v,hd,hv,rfl⟩|simp[Cp] at hx
theorem Hb {P:Program} {K:St->Prop}:∀ (sos:List SO) (σ:St),(∀ so∈sos,N6 so=true)->bh P K sos σ->∃ S:Nat->St,S 0=σ/\(∀ (j:Nat) (so:SO),sos[j]?=some so->Li P so (S j) (S (j+1)))/\K (S sos.length)
 |[],σ,_,h=>⟨fun _=>σ,rfl,by simp,h⟩
 |so::sos,σ,hok,h=>by
  simp only[bh] at h
  obtain⟨σ',h1,h2⟩:=MQ (hok so oS) h
  obtain⟨S,h3,h4,h5⟩:=Hb sos σ' (fun s hs=>hok s (by simp[hs])) h2
  refine⟨fun j=>match j with|0=>σ|j+1=>S j,rfl,fun j s hj=> ?_,by simpa using h5⟩
  cases j with
  |zero=>simp at hj;subst hj;simpa[h3] using h1
  |succ j=>exact h4 j s (by simpa using hj)
mutual
theorem Fk (id:Nat):∀ v:SV,(fQ id .any v).firm=true->fQ id .any v=v
 | .d v,_=>rfl
 | .nils,_=>rfl
 | .lit sz n cs,h=>by
  simp only[fQ,SV.firm] at h⊢
  rw[zf id cs h]
 | .agg cs,h=>by
  simp only[fQ,SV.firm] at h⊢
  rw[zf id cs h]
 | .tup cs,h=>by simp[fQ,SV.firm] at h
 | .ref i off,h=>by
  by_cases hi:i=id
  ·simp[fQ,hi,SV.firm] at h
  ·simp[fQ,hi]
 | .vec i,h=>by
  by_cases hi:i=id
  ·simp[fQ,hi,SV.firm] at h
  ·simp[fQ,hi]
 | .vref i a b off,h=>by
  by_cases hi:i=id
  ·simp[fQ,hi,SV.firm] at h
  ·simp[fQ,hi]
 | .mp i,h=>by
  by_cases hi:i=id
  ·simp[fQ,hi,SV.firm] at h
  ·simp[fQ,hi]
 | .clo f l,h=>by
  simp only[fQ] at h⊢
  cases hi:Bf id l with
  |true=>rw[hi] at h;simp[I_,SV.firm] at h
  |false=>rfl
 | .own m v,_=>rfl
theorem zf (id:Nat):∀ l:List SV,SV.firms (fk id .any l)=true->fk id .any l=l
 |[],_=>rfl
 |c::cs,h=>by
  simp only[fk,SV.firms,Oz] at h⊢
  rw[Fk id c h.1,zf id cs h.2]
end
mutual
theorem zg (id:Nat):∀ v:SV,v.firm=true->fQ id .any v=v
 | .d v,_=>rfl
 | .nils,_=>rfl
 | .lit sz n cs,h=>by
  simp only[fQ,SV.firm] at h⊢
  rw[xk id cs h]
 | .agg cs,h=>by
  simp only[fQ,SV.firm] at h⊢
  rw[xk id cs h]
 | .tup cs,h=>by simp[SV.firm] at h
 | .ref i off,h=>by simp[SV.firm] at h
 | .vec i,h=>by simp[SV.firm] at h
 | .vref i a b off,h=>by simp[SV.firm] at h
 | .mp i,h=>by simp[SV.firm] at h
 | .clo f l,h=>by simp[SV.firm] at h
 | .own m v,h=>by simp[SV.firm] at h
theorem xk (id:Nat):∀ l:List SV,SV.firms l=true->fk id .any l=l
 |[],_=>rfl
 |c::cs,h=>by
  simp only[SV.firms,Oz] at h
  simp only[fk]
  rw[zg id c h.1,xk id cs h.2]
end
def rO (s:Nat->SV):Nat->SV:=fun t=>if(s t).firm=true then s t else .d .any
theorem H9 (s:Nat->SV) (i t:Nat):fQ i .any (rO s t)=rO s t:=by
 unfold rO
 split
 ·rename_i h;exact zg i _ h
 ·rfl
theorem Fm (s:Nat->SV) (t:Nat):rO s t= .d .any\/(rO s t=s t/\(s t).firm=true):=by
 unfold rO
 split
 ·rename_i h;exact .inr ⟨rfl,h⟩
 ·exact .inl rfl
theorem JQ (s:Nat->SV) (U:Nat->Prop) (t:Nat):pE (rO s) U s t=s t\/pE (rO s) U s t= .d .any:=by
 by_cases h:U t
 ·rw[oq h]
  rcases Fm s t with h|h
  ·exact .inr h
  ·exact .inl h.1
 ·exact .inl (fl h)
def uL:uk->Bool
 | .sslc _ _ _=>true
 |_=>false
def JR:SO->Bool
 | .r _ op=>uL op
 |_=>false
def Of:SO->Bool
 | .r _ _=>true
 |_=>false
def Di (n:Nat):List (Nat×Nat×uk)->Bool
 |[]=>false
 |(_,_,.cl _ [n'])::l=>n'==n||Di n l
 |_::l=>Di n l
def BQ (op:uk) (l:List (Nat×Nat×uk)):Bool:=
 match op with
 | .mv (.t n)=>Di n l
 |_=>false
theorem Fn {s:Nat->SV} {n:Nat} {a:Option Int} (h:Ey s (some (.t n))=some a):(s n).firm=true:=by
 simp only[Ey,ev] at h
 split at h
 ·rename_i h1;rw[h1];rfl
 ·cases h
theorem Hc {h:Nat->Ch} {s:Nat->SV} {op:uk} {p:Prop} {v:SV} (hr:rd h s op=some (p,v)) (hf:uL op=true) {n:Nat} (hn: .t n∈rM op):(s n).firm=true:=by
 cases op<;>simp only[uL,O5] at hf
 rename_i x lo hi
 simp only[rd] at hr
 split at hr
 ·rename_i l a b h1 h2 h3
  simp only[rM,ON,OV,Option.mem_toList,Option.mem_def] at hn
  rcases hn with rfl|rfl|rfl
  ·have:s n= .d (.str l):=h1
   rw[this];rfl
  ·exact Fn h2
  ·exact Fn h3
 ·cases hr
mutual
theorem Dj:∀ v:SV,v.firm=true->∃ d,v.toDV=some d
 | .d v,_=>⟨v,rfl⟩
 | .nils,_=>⟨_,rfl⟩
 | .lit sz n cs,h=>by
  obtain⟨ds,hd⟩:=uM cs (by simpa only[SV.firm] using h)
  exact⟨_,by simp only[SV.toDV,hd];rfl⟩
 | .agg cs,h=>by
  obtain⟨ds,hd⟩:=uM cs (by simpa only[SV.firm] using h)
  exact⟨_,by simp only[SV.toDV,hd];rfl⟩
 | .tup cs,h=>by simp[SV.firm] at h
 | .ref i off,h=>by simp[SV.firm] at h
 | .vec i,h=>by simp[SV.firm] at h
 | .vref i a b off,h=>by simp[SV.firm] at h
 | .mp i,h=>by simp[SV.firm] at h
 | .clo f l,h=>by simp[SV.firm] at h
 | .own m v,h=>by simp[SV.firm] at h
theorem uM:∀ l:List SV,SV.firms l=true->∃ ds,SV.toDVs l=some ds
 |[],_=>⟨[],rfl⟩
 |c::cs,h=>by
  simp only[SV.firms,Oz] at h
  obtain⟨d,hd⟩:=Dj c h.1
  obtain⟨ds,hds⟩:=uM cs h.2
  exact⟨d::ds,by simp only[SV.toDVs,hd,hds]⟩
end
theorem Ag {s:Nat->SV}:∀ {l:List Nat},nm s l=true->∀ n∈l,(s n).firm=true
 |[],_,n,hn=>by cases hn
 |m::l,h,n,hn=>by
  simp only[nm,Oz] at h
  rcases ON.1 hn with rfl|hn
  ·exact h.1
  ·exact Ag h.2 n hn
theorem JS {σ σ':St} {d:Nat} {op:IV} {p:Prop} (h:wr σ d op=some (p,σ')) {n:Nat} (hn:ry d op≠some n):σ'.s n=σ.s n\/∃ id,σ'.s n=fQ id .any (σ.s n):=by
 have gr:∀ (id e sz:Nat) (rows:List (List SV)),d≠n->(c6 σ d id e sz rows).s n=fQ id .any (σ.s n):=fun id e sz rows hd=>by
  simp only[c6,aH,gn];rw[P7 (Ne.symm hd)]
 cases op with
 |boxM x=>
  have hd:d≠n:=fun e=>hn (by simp[ry,e])
  simp only[wr] at h
  split at h
  ·simp only[Oy,OB] at h
   obtain⟨rfl,rfl⟩:=h
   exact .inr ⟨d,by simp only[aH,gn];rw[P7 (Ne.symm hd)]⟩
  ·cases h
 |st k x y=>
  simp only[wr] at h
  split at h
  ·split at h
   ·simp only[Oy,OB] at h
    obtain⟨rfl,rfl⟩:=h
    exact .inl rfl
   ·cases h
  ·split at h
   ·split at h
    ·simp only[Oy,OB] at h
     obtain⟨rfl,rfl⟩:=h
     exact .inl rfl
    ·cases h
   ·cases h
  ·cases h
 |app e sz x y=>
  have hd:d≠n:=fun e=>hn (by simp[ry,e])
  simp only[wr] at h
  split at h
  ·split at h
   ·simp only[Oy,OB] at h
    obtain⟨rfl,rfl⟩:=h
    exact .inr ⟨_,gr _ _ _ _ hd⟩
   ·cases h
  ·simp only[Oy,OB] at h
   obtain⟨rfl,rfl⟩:=h
   exact .inr ⟨_,gr _ _ _ _ hd⟩
  ·simp only[Oy,OB] at h
   obtain⟨rfl,rfl⟩:=h
   exact .inr ⟨_,gr _ _ _ _ hd⟩
  ·cases h
 |appS e x y=>
  have hd:d≠n:=fun e=>hn (by simp[ry,e])
  simp only[wr] at h
  split at h
  ·split at h
   ·simp only[Oy,OB] at h
    obtain⟨rfl,rfl⟩:=h
    exact .inr ⟨_,gr _ _ _ _ hd⟩
   ·cases h
  ·simp only[Oy,OB] at h
   obtain⟨rfl,rfl⟩:=h
   exact .inr ⟨_,gr _ _ _ _ hd⟩
  ·cases h
 |bldM T e'=>
  have hd:d≠n:=fun e=>hn (by simp[ry,e])
  simp only[wr,Oy,OB] at h
  obtain⟨rfl,rfl⟩:=h
  exact .inr ⟨d,by simp only[aH,gn];rw[P7 (Ne.symm hd)]⟩
 |mkmap kk=>
  have hd:d≠n:=fun e=>hn (by simp[ry,e])
  simp only[wr,Oy,OB] at h
  obtain⟨rfl,rfl⟩:=h
  exact .inr ⟨d,by simp only[aH,gn];rw[P7 (Ne.symm hd)]⟩
 |mset kk m k v=>
  simp only[wr] at h
  split at h
  ·split at h
   ·simp only[Oy,OB] at h
    obtain⟨rfl,rfl⟩:=h
    exact .inl rfl
   ·cases h
  ·cases h
 |mkS e sz z x y=>
  have hd:d≠n:=fun e=>hn (by simp[ry,e])
  simp only[wr] at h
  split at h
  ·simp only[Oy,OB] at h
   obtain⟨rfl,rfl⟩:=h
   exact .inr ⟨_,gr _ _ _ _ hd⟩
  ·cases h
 |slM e sz xs=>
  have hd:d≠n:=fun e=>hn (by simp[ry,e])
  simp only[wr] at h
  split at h
  ·simp only[Oy,OB] at h
   obtain⟨rfl,rfl⟩:=h
   exact .inr ⟨_,gr _ _ _ _ hd⟩
  ·cases h
 |trunc sz x hi=>
  have hd:d≠n:=fun e=>hn (by simp[ry,e])
  simp only[wr] at h
  split at h
  ·split at h
   ·simp only[Oy,OB] at h
    obtain⟨rfl,rfl⟩:=h
    exact .inr ⟨_,gr _ _ _ _ hd⟩
   ·cases h
  ·cases h
theorem zh {P:Program} {so:SO} {σ σ':St} (h:Li P so σ σ') {n:Nat} (hn:dh so≠some n):σ'.s n=σ.s n\/∃ id,σ'.s n=fQ id .any (σ.s n):=by
 by_cases hx:Cp so=true
 ·cases so<;>simp[Cp] at hx
  ·obtain⟨p,hw,_,_⟩:=h
   exact JS hw hn
  ·rename_i d f args late
   obtain⟨fid,ins,outs,res,L,_,_,_,_,ht,_⟩:=h
   have hd:d≠n:=fun e=>hn (by simp[dh,e])
   simp only[takes] at ht
   split at ht
   ·simp only[Oy] at ht;subst ht
    exact .inl (by simp only[aH];rw[P7 (Ne.symm hd)])
   ·split at ht
    ·split at ht
     ·split at ht
      ·simp only[Oy] at ht;subst ht
       exact .inr ⟨d,by simp only[aH,gn];rw[P7 (Ne.symm hd)]⟩
      ·cases ht
     ·cases ht
    ·cases ht
 ·simp only[P0] at hx
  obtain⟨d,v,hd,_,rfl⟩:=BP hx h
  have hdE:dh so=some d:=by cases so<;>first|exact hd|simp[Cp] at hx
  have:n≠d:=fun e=>hn (by rw[hdE,e])
  exact .inl (by simp only[aH];rw[P7 this])
theorem BR {P:Program} {sos:List SO} {S:Nat->St} (hS:∀ (j:Nat) (so:SO),sos[j]?=some so->Li P so (S j) (S (j+1))) {a n:Nat}:∀ b,a<=b->b<=sos.length->(∀ i,a<=i->i<b->(sos.map dh)[i]?≠some (some n))->((S b).s n).firm=true->(S a).s n=(S b).s n:=by
 intro b hab hb hn hf
 induction b with
 |zero=>
      obtain rfl:a=0:=by omega
      rfl
 |succ b ih=>
  by_cases hab':a=b+1
  ·rw[hab']
  obtain⟨so,hso⟩:∃ so,sos[b]?=some so:=⟨_,OJ oM⟩
  have hd:dh so≠some n:=fun e=>hn b oM oM (by simp[hso,e])
  have h1:(S (b+1)).s n=(S b).s n:=by
   rcases zh (hS b so hso) hd with h|⟨id,h⟩
   ·exact h
   ·rw[h] at hf⊢;exact Fk id _ hf
  rw[h1] at hf⊢
  exact ih oM oM (fun i hi hi'=>hn i hi oM) hf
theorem Lj {P:Program} {sos:List SO} {S:Nat->St} (hS:∀ (j:Nat) (so:SO),sos[j]?=some so->Li P so (S j) (S (j+1))) {a n:Nat} {v:DV} (hv:(S a).s n= .d v):∀ b,a<=b->b<=sos.length->(∀ i,a<=i->i<b->(sos.map dh)[i]?≠some (some n))->(S b).s n= .d v:=by
 intro b hab hb hn
 induction b with
 |zero=>
      obtain rfl:a=0:=by omega
      exact hv
 |succ b ih=>
  by_cases hab':a=b+1
  ·rw[<-hab'];exact hv
  obtain⟨so,hso⟩:∃ so,sos[b]?=some so:=⟨_,OJ oM⟩
  have hd:dh so≠some n:=fun e=>hn b oM oM (by simp[hso,e])
  have h0:=ih oM oM (fun i hi hi'=>hn i hi oM)
  rcases zh (hS b so hso) hd with h|⟨id,h⟩
  ·rw[h,h0]
  ·rw[h,h0];rfl
theorem JT {P:Program} {sos:List SO} {S:Nat->St} (hS:∀ (j:Nat) (so:SO),sos[j]?=some so->Li P so (S j) (S (j+1))) {a n:Nat} (hv:((S a).s n).firm=true):∀ b,a<=b->b<=sos.length->(∀ i,a<=i->i<b->(sos.map dh)[i]?≠some (some n))->(S b).s n=(S a).s n:=by
 intro b hab hb hn
 induction b with
 |zero=>
      obtain rfl:a=0:=by omega
      rfl
 |succ b ih=>
  by_cases hab':a=b+1
  ·rw[<-hab']
  obtain⟨so,hso⟩:∃ so,sos[b]?=some so:=⟨_,OJ oM⟩
  have hd:dh so≠some n:=fun e=>hn b oM oM (by simp[hso,e])
  have h0:=ih oM oM (fun i hi hi'=>hn i hi oM)
  rcases zh (hS b so hso) hd with h|⟨id,h⟩
  ·rw[h,h0]
  ·rw[h,h0];exact zg id _ hv
def BS (sos:List SO) (a:Nat):List (Nat×Nat×uk)->Bool
 |[]=>false
 |(a',d,.cl t ts)::l=>(a'==a&&t==d&&(match sos[a]? with
  |some (.c d' (.f _) args)=>d'==d&&args.all (fun x=>match x with| .t n=>ts.contains n| .c v=>v.toDV.isSome| .f _=>false)
  |_=>false))||BS sos a l
 |_::l=>BS sos a l
def fX (sos:List SO) (i:Nat):Bool:=match sos[i]? with|some so=>Cp so|none=>false
def tY (kp fo fw:Bool) (all:Array Oper) (sos:List SO) (dl:List (Option Nat)) (j:Nat) (o:Oper) (xs:List SX):Bool:=
 (GU xs).all fun t=>(List.range dl.length).all fun b=>dl[b]? !=some (some t)||(decide (b<j)&&o.after.any (fun e=>Region.binds .any e&&e.on==b))||
  ((List.range b).any fun p=>decide (j<=p)&&fX sos p&&(p==j||back all j p [p]))||
  (kp&&fo&&decide (j<b)&&back all j b [b]&&((List.range sos.length).all fun p=> !fX sos p||decide (p<b)||back all j p [p])&&(fw||(List.range b).any fun p=>decide (j<=p)&&fX sos p))
def BT (kp:Bool) (l0:List (Nat×Nat×uk)) (P:Program) (N:Nat) (all:Array Oper) (sos:List SO) (dl:List (Option Nat)) (a:Nat):List (Nat×Nat×uk)->Bool
 |[]=>false
 |(a',d,op)::l=>(a'==a&&dl[a]?==some (some d)&&(match all[a]? with
  |some o=>(match op with
   | .gd t want op'=>lz P N all o (.g t want (some d) (.r d op'))&&tY kp (uL op'||BQ op' l0) true all sos dl a o (.t t::rM op')
   |op=>o.guard==none&&eG P N o (.r d op)&&tY kp (uL op||BQ op l0) true all sos dl a o (rM op))
  |none=>false))||BT kp l0 P N all sos dl a l
def zi:SO->List (Nat×Nat×uk)
 | .x _ _ l=>l
 | .q _ _ _ l=>l
 |_=>[]
def BU (kp:Bool) (P:Program) (N:Nat) (all:Array Oper) (sos:List SO) (dl:List (Option Nat)) (j:Nat) (o:Oper) (so:SO):Bool:=
 N6 so&&o.after.all (fun e=> !Region.binds .any e||decide (e.on<j))&&tY kp (Of so) (JR so) all sos dl j o (Ox so)&&
 (List.range dl.length).all (fun b=>b==j||dl[b]? !=dl[j]?||dl[j]?==some none)&&
 (List.range j).all (fun p=>match sos[p]? with
  |some sp=>if Cp sp then back all p j [j] else(!Cp so||back all p j [j]||BT kp (zi so) P N all sos dl p (zi so)||BS sos p (zi so))
  |none=>false)
def Ar (kp:Bool) (P:Program) (N:Nat) (all:Array Oper) (sos:List SO) (dl:List (Option Nat)):Nat->List Oper->List SO->Bool
 |_,[],[]=>true
 |j,o::ops,so::l=>BU kp P N all sos dl j o so&&Ar kp P N all sos dl (j+1) ops l
 |_,_,_=>false
abbrev NC:=Ar false
theorem BV {kp:Bool} {P:Program} {N:Nat} {all:Array Oper} {sos:List SO} {dl:List (Option Nat)}:∀ {ops:List Oper} {l:List SO} {k:Nat},Ar kp P N all sos dl k ops l=true->∀ (j:Nat) (o:Oper) (so:SO),ops[j]?=some o->l[j]?=some so->BU kp P N all sos dl (k+j) o so=true
 |[],[],k,h,j,o,so,ho,hs=>by simp at ho
 |o'::ops,so'::l,k,h,j,o,so,ho,hs=>by
  simp only[Ar,Oz] at h
  cases j with
  |zero=>simp at ho hs;subst ho hs;exact h.1
  |succ j=>
   have:=BV h.2 j o so (by simpa using ho) (by simpa using hs)
   rw[show k+(j+1)=k+1+j by omega];exact this
 |[],_::_,k,h,_,_,_,_,_=>by simp[Ar] at h
 |_::_,[],k,h,_,_,_,_,_=>by simp[Ar] at h
theorem BW {kp fo fw:Bool} {all:Array Oper} {sos:List SO} {dl:List (Option Nat)} {j:Nat} {o:Oper} {xs:List SX} (h:tY kp fo fw all sos dl j o xs=true) {t:Nat} (ht: .t t∈xs) {b:Nat} (hb:dl[b]?=some (some t)):
  (b<j/\∃ e∈o.after,Region.binds .any e=true/\e.on=b)\/(∃ p,p<b/\j<=p/\fX sos p=true/\(p=j\/back all j p [p]=true))\/
   (kp=true/\fo=true/\j<b/\back all j b [b]=true/\(fw=true\/∃ p,j<=p/\p<b/\fX sos p=true)/\∀ p,p<sos.length->fX sos p=true->p<b\/back all j p [p]=true):=by
 have h1:=Pa.1 h t (List.mem_filterMap.2 ⟨.t t,ht,rfl⟩)
 have h2:=Pa.1 h1 b (PI.2 (OG.1 hb).1)
 simp only[hb,bne_self_eq_false,Pj,O3,Oz,OC] at h2
 rcases h2 with(h2|h2)|h2
 ·obtain⟨e,he,hb'⟩:=Array.any_eq_true'.1 h2.2
  simp only[Oz,OI] at hb'
  exact .inl ⟨h2.1,e,he,hb'.1,hb'.2⟩
 ·obtain⟨p,hp,hp'⟩:=P9.1 h2
  simp only[Oz,O3,OC,OI] at hp'
  exact .inr (.inl ⟨p,PI.1 hp,hp'.1.1,hp'.1.2,hp'.2⟩)
 ·obtain⟨⟨⟨⟨⟨k1,k2⟩,k3⟩,k4⟩,k5⟩,k6⟩:=h2
  refine .inr (.inr ⟨k1,k2,k3,k4, ?_,fun p hp hx=> ?_⟩)
  ·rcases k6 with k6|k6
   ·exact .inl k6
   ·obtain⟨p,hp,hp'⟩:=P9.1 k6
    simp only[Oz,OC] at hp'
    exact .inr ⟨p,hp'.1,PI.1 hp,hp'.2⟩
  have:=Pa.1 k5 p (PI.2 hp)
  simpa[hx] using this
theorem xl {σ:St} {n:Nat}:∀ {l:List (Nat×Nat×uk)},Di n l=true->Co σ l->(σ.s n).firm=true
 |[],h,_=>by simp[Di] at h
 |(a,d,op)::l,h,hr=>by
  simp only[Co] at hr
  unfold Di at h
  split at h
  ·cases h
  ·rename_i heq
   simp only[O7,OB] at heq
   obtain⟨⟨rfl,rfl,rfl⟩,rfl⟩:=heq
   simp only[O3,OI] at h
   rcases h with rfl|h
   ·have h0:=hr.1
    simp only[MD,rd] at h0
    split at h0
    ·rename_i heq2
     split at heq2
     ·rename_i hfa;simpa[nm] using hfa
     ·cases heq2
    ·exact h0.elim
   ·exact xl h hr.2
  ·rename_i heq
   simp only[O7] at heq
   obtain⟨rfl,rfl⟩:=heq
   exact xl h hr.2
theorem Gx {σ:St} {op:uk} {l:List (Nat×Nat×uk)} (h:BQ op l=true) (hr:Co σ l) {n:Nat} (hn: .t n∈rM op):(σ.s n).firm=true:=by
 unfold BQ at h
 split at h
 ·simp only[rM,OP,SX.t.injEq] at hn
  subst hn
  exact xl h hr
 ·cases h
theorem Lk {a b:Bool} (h:¬ a=b):a= !b:=by cases a<;>cases b<;>first|rfl|exact absurd rfl h
theorem Ah {kp:Bool} {l0:List (Nat×Nat×uk)} {P:Program} {N:Nat} {all:Array Oper} {sos:List SO} {dl:List (Option Nat)} {a:Nat} {σ:St}:∀ {l:List (Nat×Nat×uk)},BT kp l0 P N all sos dl a l=true->Co σ l->
  ∃ d op o,dl[a]?=some (some d)/\all[a]?=some o/\
   ((o.guard=none/\eG P N o (.r d op)=true/\tY kp (uL op||BQ op l0) true all sos dl a o (rM op)=true/\∃ p,rd σ.h σ.s op=some (p,σ.s d)/\p)\/
    (∃ t want,lz P N all o (.g t want (some d) (.r d op))=true/\tY kp (uL op||BQ op l0) true all sos dl a o (.t t::rM op)=true/\∃ p,MD σ.h σ.s (.gd t want op)=some (p,σ.s d)/\p))
 |[],h,_=>by simp[BT] at h
 |(a',d,op)::l,h,hr=>by
  simp only[BT,O3,Oz,OI] at h
  simp only[Co] at hr
  rcases h with⟨⟨rfl,h1⟩,h2⟩|h
  ·split at h2
   ·rename_i o ho
    obtain⟨hr1,_⟩:=hr
    split at hr1
    ·rename_i p v hrd
     obtain⟨hp,rfl⟩:=hr1
     split at h2
     ·rename_i t want op'
      simp only[Oz] at h2
      exact⟨d,op',o,h1,ho,.inr ⟨t,want,h2.1,h2.2,p,hrd,hp⟩⟩
     ·rename_i hng
      simp only[Oz,OI] at h2
      have hrd':rd σ.h σ.s op=some (p,σ.s d):=by
       cases op<;>first|exact hrd|exact absurd rfl (hng _ _ _)
      exact⟨d,op,o,h1,ho,.inl ⟨h2.1.1,h2.1.2,h2.2,p,hrd',hp⟩⟩
    ·exact hr1.elim
   ·cases h2
  ·exact Ah h hr.2
theorem xm {sos:List SO} {a:Nat} {σ:St}:∀ {l:List (Nat×Nat×uk)},BS sos a l=true->Co σ l->∃ d fid args ts,sos[a]?=some (.c d (.f fid) args)/\(∀ x∈args,(∃ n,x= .t n/\n∈ts)\/∃ v,x= .c v/\v.toDV.isSome=true)/\nm σ.s ts=true
 |[],h,_=>by simp[BS] at h
 |(a',d,op)::l,h,hr=>by
  simp only[Co] at hr
  cases op with
  |cl t ts=>
   simp only[BS,O3,Oz,OI] at h
   rcases h with⟨_,h⟩|h
   ·split at h
    ·rename_i d' fid args hs
     simp only[Oz,OI,Pa] at h
     refine⟨d',fid,args,ts,hs,fun x hx=> ?_, ?_⟩
     ·have:=h.2 x hx
      cases x with
      |t n=>exact .inl ⟨n,rfl,by simpa using this⟩
      |c v=>exact .inr ⟨v,rfl,this⟩
      |f i=>cases this
     ·have h0:=hr.1
      simp only[MD,rd] at h0
      by_cases hf:nm σ.s ts=true
      ·exact hf
      ·simp[hf] at h0
    ·cases h
   ·exact xm h hr.2
  |_=>exact xm (by simpa only[BS] using h) hr.2
theorem Mh (f:Nat->Bool) (n:Nat):∀ k,k<=n->∃ M,k<=M/\M<=n/\(∀ i,k<=i->i<M->f i=false)/\(M=n\/(M<n/\f M=true)):=by
 intro k hk
 obtain⟨m,hm⟩:∃ m,m=n - k:=⟨_,rfl⟩
 induction m generalizing k with
 |zero=>exact⟨k,OH _,hk,fun i h1 h2=>by omega,.inl oM⟩
 |succ m ih=>
  by_cases hf:f k=true
  ·exact⟨k,OH _,hk,fun i h1 h2=>by omega,.inr ⟨by omega,hf⟩⟩
  ·obtain⟨M,h1,h2,h3,h4⟩:=ih (k+1) oM oM
   refine⟨M,by omega,h2,fun i h5 h6=> ?_,h4⟩
   by_cases hik:i=k
   ·subst hik;simpa using hf
   ·exact h3 i oM h6
theorem ND (f:Nat->Bool) (k:Nat):∀ M,k<=M->(∀ i,k<=i->i<M->f i=false)\/∃ p,k<=p/\p<M/\f p=true/\∀ i,p<i->i<M->f i=false:=by
 intro M hM
 induction M with
 |zero=>exact .inl fun i h1 h2=>by omega
 |succ M ih=>
  by_cases hk:k=M+1
  ·exact .inl fun i h1 h2=>by omega
  ·by_cases hf:f M=true
   ·exact .inr ⟨M,by omega,by omega,hf,fun i h1 h2=>by omega⟩
   ·rcases ih oM with h|⟨p,h1,h2,h3,h4⟩
    ·refine .inl fun i h1 h2=> ?_
     by_cases hi:i=M
     ·subst hi;simpa using hf
     ·exact h i h1 oM
    ·refine .inr ⟨p,h1,by omega,h3,fun i h5 h6=> ?_⟩
     by_cases hi:i=M
     ·subst hi;simpa using hf
     ·exact h4 i h5 oM
section
variable {P:Program} {c:Cx}
theorem Dk {sos:List SO} {S:Nat->St} (hS:∀ (j:Nat) (so:SO),sos[j]?=some so->Li P so (S j) (S (j+1))) {a:Nat}:∀ b,a<=b->b<=sos.length->(∀ i,a<=i->i<b->fX sos i=false)->
  (S b).h=(S a).h/\∀ t,(∀ i,a<=i->i<b->(sos.map dh)[i]?≠some (some t))->(S b).s t=(S a).s t:=by
 intro b hab hb hf
 induction b with
 |zero=>
      obtain rfl:a=0:=by omega
      exact⟨rfl,fun _ _=>rfl⟩
 |succ b ih=>
  by_cases hab':a=b+1
  ·subst hab';exact⟨rfl,fun _ _=>rfl⟩
  obtain⟨h1,h2⟩:=ih oM oM (fun i hi hi'=>hf i hi oM)
  obtain⟨so,hso⟩:∃ so,sos[b]?=some so:=⟨_,OJ oM⟩
  have hx:Cp so=false:=by have:=hf b oM oM;simpa[fX,hso] using this
  obtain⟨d,v,hd,_,he⟩:=BP hx (hS b so hso)
  have hdE:dh so=some d:=by cases so<;>first|exact hd|simp[Cp] at hx
  rw[he]
  refine⟨h1,fun t ht=> ?_⟩
  have hne:t≠d:=fun e=>by
   subst e
   exact ht b oM oM (by simp[hso,hdE])
  simp only[bf _ _ _ _ hne]
  exact h2 t fun i hi hi'=>ht i hi oM
def dT (dl:List (Option Nat)) (M:Nat) (L:Nat->Bool) (t:Nat):Prop:=∃ i:Nat,i<M/\dl[i]?=some (some t)/\L i=false
theorem Gy {ops:Array Oper} {sos:List SO} {S:Nat->St} {K:St->Prop} {Q:Exit->Act->World->Prop}
  (hQ:∀ σ' κ' φ' a' w',cE c σ' κ' φ' a' w'->K σ'->Q .normal a' w') (hm:aY P c.N ops ops.toList sos=true) {kp:Bool} {z:Nat->SV} (hz:∀ i t,fQ i .any (z t)=z t) (hzk:kp=true->∀ t,((S 0).s t).firm=true->z t=(S 0).s t) (hzw:∀ t,z t= .d .any\/(z t=(S 0).s t/\((S 0).s t).firm=true)) (hord:Ar kp P c.N ops sos (sos.map dh) 0 ops.toList sos=true)
  (hS:∀ (j:Nat) (so:SO),sos[j]?=some so->Li P so (S j) (S (j+1))) (hK:K (S sos.length)):
  ∀ (fuel:Nat) (listed:Array Bool) (M:Nat) (κ:Nat->Value) (φ:Nat->List Nat) (a:Act) (w:World),listed.size=ops.size->(C5 ops.size listed).length=fuel->
   (∀ (i:Nat) o,listed.getD i false=true->ops[i]?=some o->∀ e∈o.after,Region.binds .any e=true->listed.getD e.on false=true)->
   M<=sos.length->(∀ i,i<M->fX sos i=true->listed.getD i false=true)->(M=sos.length\/(M<sos.length/\fX sos M=true))->(∀ i,M<=i->listed.getD i false=false)->
   cE c ⟨pE z (dT (sos.map dh) M (fun i=>listed.getD i false)) (S M).s,(S M).h⟩ κ φ a w->
   wpAny P .any ops Q fuel listed a w:=by
 obtain⟨hml,hmo⟩:=nr hm
 have hlen:sos.length=ops.size:=by simp at hml;omega
 have hget:∀ j,j<ops.size->∃ so,sos[j]?=some so:=fun j hj=>⟨_,OJ oM⟩
 have hdl:∀ (j:Nat) so,sos[j]?=some so->(sos.map dh)[j]?=some (dh so):=fun j so h=>by simp[h]
 have hord1:∀ (j:Nat) o so,ops[j]?=some o->sos[j]?=some so->BU kp P c.N ops sos (sos.map dh) j o so=true:=fun j o so ho hso=>by
  have:=BV hord j o so (by simpa using ho) hso
  simpa using this
 have hedges:∀ (j:Nat) o so,ops[j]?=some o->sos[j]?=some so->∀ e∈o.after,Region.binds .any e=true->e.on<j:=fun j o so ho hso e he hb=>by
  have:=hord1 j o so ho hso
  simp only[BU,Oz] at this
  have:=Array.all_eq_true_iff_forall_mem.1 this.1.1.1.2 e he
  simpa[hb] using this
 have huniq:∀ (j b:Nat) t,(sos.map dh)[j]?=some (some t)->(sos.map dh)[b]?=some (some t)->b=j:=fun j b t hj hb=>by
  have hjl:j<sos.length:=by have:=(OG.1 hj).1;simpa using this
  have hbl:b<(sos.map dh).length:=(OG.1 hb).1
  obtain⟨so,hso⟩:=hget j oM
  have:=hord1 j ops[j] so (PL oM) hso
  simp only[BU,Oz] at this
  have:=Pa.1 this.1.2 b (PI.2 hbl)
  simpa[hj,hb] using this
 have hafter:∀ (p j:Nat),p<j->j<sos.length->fX sos p=true->back ops p j [j]=true:=fun p j hpj hj hp=>by
  obtain⟨so,hso⟩:=hget j oM
  obtain⟨sp,hsp⟩:=hget p oM
  have:=hord1 j ops[j] so (PL oM) hso
  simp only[BU,Oz] at this
  have:=Pa.1 this.2 p (PI.2 hpj)
  have hx:Cp sp=true:=by simpa[fX,hsp] using hp
  simpa[hsp,hx] using this
 have fin:∀ (listed:Array Bool) (M:Nat) (κ:Nat->Value) (φ:Nat->List Nat) (a:Act) (w:World),listed.size=ops.size->(M=sos.length\/(M<sos.length/\fX sos M=true))->(∀ i,M<=i->listed.getD i false=false)->
   cE c ⟨pE z (dT (sos.map dh) M (fun i=>listed.getD i false)) (S M).s,(S M).h⟩ κ φ a w->Region.ready .any ops listed=[]->Q .normal a w:=by
  intro listed M κ φ a w hls hM hun hr hready
  have all:∀ j,j<ops.size->listed.getD j false=true:=by
   intro j
   induction j using Nat.strongRecOn with
   |_ j ih=>
    intro hj
    by_cases hl:listed.getD j true=false
    ·exfalso
     have ho:ops[j]?=some ops[j]:=PL hj
     obtain⟨so,hso⟩:=hget j hj
     have hx:=hedges j ops[j] so ho hso
     have:j∈Region.ready .any ops listed:=mem_ready.2 ⟨hl,ops[j],ho,fun e he hb=>ih e.on (hx e he hb) (by have:=hx e he hb;omega)⟩
     rw[hready] at this;simp at this
    ·have hj':j<listed.size:=by omega
     simp[hj'] at hl⊢
     exact hl
  have hMn:M=sos.length:=by
   rcases hM with h|⟨h,_⟩
   ·exact h
   ·have h1:=all M oM
    rw[hun M (OH _)] at h1;cases h1
  refine hQ _ _ _ _ _ hr ?_
  have:pE z (dT (sos.map dh) M (fun i=>listed.getD i false)) (S M).s=(S M).s:=by
   funext t
   refine fl fun⟨i,_,h1,h2⟩=> ?_
   have hil:i<sos.length:=by have:=(OG.1 h1).1;simpa using this
   simp only[all i oM] at h2;cases h2
  rw[this,hMn];exact hK
 intro fuel
 induction fuel with
 |zero=>
  intro listed M κ φ a w hls hu _ _ _ hM hun hr
  have hready:Region.ready .any ops listed=[]:=by
   cases hrd:Region.ready .any ops listed with
   |nil=>rfl
   |cons i l=>
    exfalso
    have hi:i∈Region.ready .any ops listed:=by rw[hrd];simp
    obtain⟨h0,o,ho,_⟩:=mem_ready.1 hi
    have:i∈C5 ops.size listed:=by simp only[C5,Qf,PI,h0,Po,and_true];exact(Pw.1 ho).1
    rw[OX.1 hu] at this;simp at this
  exact⟨hready,fin listed M κ φ a w hls hM hun hr hready⟩
 |succ fuel ih=>
  intro listed M κ φ a w hls hu hcl hMn hbef hM hun hr
  refine⟨fin listed M κ φ a w hls hM hun hr,fun j hj=> ?_⟩
  obtain⟨h0,o,ho,hedge⟩:=mem_ready.1 hj
  have hjlt:j<ops.size:=(Pw.1 ho).1
  obtain⟨so,hso⟩:=hget j hjlt
  have hnl:listed.getD j false=false:=by
   simp only[PB] at h0⊢
   have:j<listed.size:=by omega
   simpa[this] using h0
  have hcl':=Bq hcl ho hedge oM
  have hli:(C5 ops.size (listed.setIfInBounds j true)).length=fuel:=by
   have:=GW hjlt hls h0
   omega
  have hL':∀ i,(listed.setIfInBounds j true).getD i false=(listed.getD i false||i==j):=fun i=>by
   by_cases hij:j=i
   ·subst hij;simp[hls,hjlt]
   ·rw[getD_set_ne false hij];simp[Ne.symm hij]
  have hjM:j<=M:=by
   rcases O2 M j with hlt|hle
   ·exfalso
    rcases hM with h|⟨h,hx⟩
    ·omega
    ·have h1:=hafter M j hlt oM hx
     have h2:=mi hcl' j [j] (by simp[hL']) h1
     rw[hL',hun M (OH _)] at h2
     simp at h2
     omega
   ·exact hle
  have hop:=hord1 j o so ho hso
  have operand2:∀ (xs:List SX) (fo fw:Bool),tY kp fo fw ops sos (sos.map dh) j o xs=true->∀ t,.t t∈xs->(¬ dT (sos.map dh) M (fun i=>listed.getD i false) t/\∀ b:Nat,(sos.map dh)[b]?=some (some t)->b<j\/M<=b)\/
    (kp=true/\fo=true/\∃ b:Nat,(sos.map dh)[b]?=some (some t)/\j<b/\b<M/\listed.getD b false=false/\(fw=true\/∃ p,j<=p/\p<b/\fX sos p=true)/\∀ p,p<M->fX sos p=true->p<b):=fun xs fo fw hxs t ht=>by
   have hlate:∀ b p:Nat,p<b->j<=p->fX sos p=true->(p=j\/back ops j p [p]=true)->M<=b:=fun b p h1 h2 h3 h4=>by
    rcases O2 b M with hlt|hge
    ·exfalso
     have hlp:=hbef p oM h3
     rcases h4 with rfl|h4
     ·rw[hnl] at hlp;cases hlp
     ·have:=mi hcl p [p] (by simpa using hlp) h4
      rw[hnl] at this;cases this
    ·exact hge
   by_cases hb3:∃ b:Nat,(sos.map dh)[b]?=some (some t)/\kp=true/\fo=true/\j<b/\back ops j b [b]=true/\b<M/\(fw=true\/∃ p,j<=p/\p<b/\fX sos p=true)/\∀ p,p<sos.length->fX sos p=true->p<b\/back ops j p [p]=true
   ·obtain⟨b,hb,k1,k2,k3,k4,k5,k7,k6⟩:=hb3
    refine .inr ⟨k1,k2,b,hb,k3,k5, ?_,k7,fun p hp hx=> ?_⟩
    ·by_cases hlb:listed.getD b false=true
     ·have:=mi hcl b [b] (by simpa using hlb) k4
      rw[hnl] at this;cases this
     ·simpa using hlb
    ·rcases k6 p oM hx with h|h
     ·exact h
     ·have:=mi hcl p [p] (by simpa using hbef p hp hx) h
      rw[hnl] at this;cases this
   ·refine .inl ⟨fun⟨b,hb0,hb1,hb2⟩=> ?_,fun b hb=> ?_⟩
    ·rcases BW hxs ht hb1 with⟨_,e,he,hbd,rfl⟩|⟨p,h1,h2,h3,h4⟩|⟨k1,k2,k3,k4,k7,k5⟩
     ·simp only[hedge e he hbd] at hb2;cases hb2
     ·have:=hlate b p h1 h2 h3 h4;omega
     ·exact hb3 ⟨b,hb1,k1,k2,k3,k4,hb0,k7,k5⟩
    ·rcases BW hxs ht hb with⟨h,_⟩|⟨p,h1,h2,h3,h4⟩|⟨k1,k2,k3,k4,k7,k5⟩
     ·exact .inl h
     ·exact .inr (hlate b p h1 h2 h3 h4)
     ·refine .inr ?_
      rcases O2 b M with hlt|hge
      ·exact absurd ⟨b,hb,k1,k2,k3,k4,hlt,k7,k5⟩ hb3
      ·exact hge
  have operand:∀ (xs:List SX),(∃ fw,tY kp false fw ops sos (sos.map dh) j o xs=true)->∀ t,.t t∈xs->¬ dT (sos.map dh) M (fun i=>listed.getD i false) t/\∀ b:Nat,(sos.map dh)[b]?=some (some t)->b<j\/M<=b:=fun xs ⟨fw,hxs⟩ t ht=>
   (operand2 xs false fw hxs t ht).resolve_right fun h=>by cases h.2.1
  have first:∀ (n b k:Nat),kp=true->(sos.map dh)[b]?=some (some n)->k<=b->k<=sos.length->b<M->listed.getD b false=false->((S k).s n).firm=true->pE z (dT (sos.map dh) M (fun i=>listed.getD i false)) (S M).s n=(S k).s n:=fun n b k hkp hb hkb hks hbM hlb hf=>by
   rw[oq (U:=dT (sos.map dh) M (fun i=>listed.getD i false)) ⟨b,hbM,hb,hlb⟩]
   have h0:=BR hS (a:=0) (n:=n) k (Pi _) hks (fun i _ hi' h=>by have:=huniq b i n hb h;omega) hf
   rw[<-h0]
   exact hzk hkp n (by rw[h0];exact hf)
  unfold wpOp
  simp only[ho]
  by_cases hX:Cp so=true
  ·
   have hjM':j=M:=by
    rcases O2 j M with hlt|hle
    ·have:=hbef j hlt (by simpa[fX,hso] using hX)
     rw[hnl] at this;cases this
    ·omega
   subst hjM'
   obtain⟨e,so',hdW,hmo',hao⟩:∃ (e:Option Nat) (so':SO),e=dh so/\lz P c.N ops o so'=true/\AO P so' ⟨pE z (dT (sos.map dh) j (fun i=>listed.getD i false)) (S j).s,(S j).h⟩ (· =⟨pE z (fun t=>dT (sos.map dh) j (fun i=>listed.getD i false) t/\e≠some t) (S (j+1)).s,(S (j+1)).h⟩):=by
    cases so<;>simp[Cp] at hX
    ·rename_i d op late
     obtain⟨p,hw,hp,hrer⟩:=hS j _ hso
     have hxs:∃ fw,tY kp false fw ops sos (sos.map dh) j o (Ez op)=true:=by
      simp only[BU,Oz] at hop;exact⟨_,hop.1.1.2⟩
     have hfr:=JP hz (U:=dT (sos.map dh) j (fun i=>listed.getD i false)) hw (fun x hx t ht=>(operand _ hxs t (ht▸hx)).1)
     refine⟨ry d op,.x d op [],rfl, ?_, ?_⟩
     ·have:=hmo j o _ (by simpa using ho) hso
      simpa only[lz,eG] using this
     ·simp only[AO,hfr,Co,and_true,true_and];exact hp
    ·rename_i d f args late
     obtain⟨fid,ins,outs,res,L,q1,q3,q4,q2,q5,hrer⟩:=hS j _ hso
     have hxs:∃ fw,tY kp false fw ops sos (sos.map dh) j o (f::args)=true:=by
      simp only[BU,Oz] at hop;exact⟨_,hop.1.1.2⟩
     refine⟨some d,.q d f args [],rfl, ?_, ?_⟩
     ·have:=hmo j o _ (by simpa using ho) hso
      simpa only[lz,eG] using this
     ·have hev:∀ x∈f::args,ev (pE z (dT (sos.map dh) j (fun i=>listed.getD i false)) (S j).s) x=ev (S j).s x:=fun x hx=>lA fun t ht=>(operand _ hxs t (ht▸hx)).1
      have hargs:args.map (ev (pE z (dT (sos.map dh) j (fun i=>listed.getD i false)) (S j).s))=args.map (ev (S j).s):=PM fun x hx=>hev x (by simp[hx])
      exact⟨fid,ins,outs,res,L,_,by rw[<-q1];exact hev f oS,q3,q4,by simp only[hargs];exact q2,Fj hz q5,trivial,rfl⟩
   refine wi hr hmo' hao fun σ' κ' φ' a' w' hr' hk=> ?_
   subst hk
   obtain⟨M',h1,h2,h3,h4⟩:=Mh (fX sos) sos.length (j+1) oM
   obtain⟨q1,q2⟩:=Dk hS M' h1 h2 h3
   have hweak:dB ⟨pE z (fun t=>dT (sos.map dh) j (fun i=>listed.getD i false) t/\e≠some t) (S (j+1)).s,(S (j+1)).h⟩ ⟨pE z (dT (sos.map dh) M' (fun i=>(listed.setIfInBounds j true).getD i false)) (S M').s,(S M').h⟩:=by
    refine BO (fun t=> ?_) (fun i=> .inl (by simp only[q1]))
    by_cases hU:dT (sos.map dh) M' (fun i=>(listed.setIfInBounds j true).getD i false) t
    ·show pE z (dT (sos.map dh) M' (fun i=>(listed.setIfInBounds j true).getD i false)) (S M').s t=pE z (fun t=>dT (sos.map dh) j (fun i=>listed.getD i false) t/\e≠some t) (S (j+1)).s t\/pE z (dT (sos.map dh) M' (fun i=>(listed.setIfInBounds j true).getD i false)) (S M').s t=_
     by_cases hV:dT (sos.map dh) j (fun i=>listed.getD i false) t/\e≠some t
     ·rw[oq hU,oq (U:=fun t=>dT (sos.map dh) j (fun i=>listed.getD i false) t/\e≠some t) hV];exact .inl rfl
     ·rw[oq hU,fl (U:=fun t=>dT (sos.map dh) j (fun i=>listed.getD i false) t/\e≠some t) hV]
      rcases hzw t with h|⟨h,hf⟩
      ·exact .inr h
      ·refine .inl ?_
       obtain⟨i,hi0,hi1,hi2⟩:=hU
       have hij:j<i:=by
        rcases O2 j i with h'|h'
        ·exact h'
        ·exfalso
         simp only[hL',PQ,QA,ne_eq] at hi2
         refine hV ⟨⟨i,by omega,hi1,hi2.1⟩,fun he=> ?_⟩
         rw[hdW] at he
         have:=huniq j i t (by rw[hdl j so hso,he]) hi1
         omega
       rw[h]
       exact(JT hS (a:=0) hf (j+1) (Pi _) oM fun q _ hq h'=>by have:=huniq i q t hi1 h';omega).symm
    ·refine .inl ?_
     simp only[fl hU]
     rw[fl,q2 t]
     ·intro i hi hi' he
      refine hU ⟨i,hi',he, ?_⟩
      simp only[hL',hun i oM,Pj,QA,ne_eq]
      omega
     ·rintro⟨⟨i,hi0,hi1,hi2⟩,_⟩
      refine hU ⟨i,by omega,hi1, ?_⟩
      simp only[hL',hi2,Pj,QA,ne_eq]
      omega
   obtain⟨κ2,φ2,hr2⟩:=hweak _ _ _ _ _ hr'
   refine ih (listed.setIfInBounds j true) M' κ2 φ2 a' w' (by simp[hls]) hli hcl' h2 ?_ h4 ?_ hr2
   ·intro i hi hx
    rw[hL']
    by_cases hij:i=j
    ·simp[hij]
    ·rcases O2 i j with hlt|hge
     ·simp[hbef i hlt hx]
     ·rw[h3 i oM hi] at hx;cases hx
   ·intro i hi
    rw[hL',hun i oM];simp;omega
  ·
   simp only[P0] at hX
   obtain⟨d,v,hd,hy,he⟩:=BP hX (hS j so hso)
   have hdE:dh so=some d:=by cases so<;>first|exact hd|simp[Cp] at hX
   have hdj:(sos.map dh)[j]?=some (some d):=by rw[hdl j so hso,hdE]
   have hjM':j<M:=by
    rcases hM with h|⟨h,hx⟩
    ·omega
    ·rcases O2 j M with h'|h'
     ·exact h'
     ·obtain rfl:j=M:=by omega
      simp only[fX,hso,hX] at hx;cases hx
   have hxs:tY kp (Of so) (JR so) ops sos (sos.map dh) j o (Jj so)=true:=by
    simp only[BU,Oz] at hop
    have:=hop.1.1.2
    cases so<;>first|exact this|simp[Cp] at hX
   have hstate:aH (pE z (dT (sos.map dh) M (fun i=>listed.getD i false)) (S M).s) d ((S M).s d)=pE z (dT (sos.map dh) M (fun i=>(listed.setIfInBounds j true).getD i false)) (S M).s:=by
    funext t
    by_cases ht:t=d
    ·subst ht
     rw[an,fl]
     rintro⟨i,_,hi1,hi2⟩
     have:=huniq j i t hdj hi1
     subst this
     simp[hL'] at hi2
    ·rw[bf _ _ _ _ ht]
     by_cases hU:dT (sos.map dh) M (fun i=>listed.getD i false) t
     ·rw[oq hU,oq]
      obtain⟨i,hi0,hi1,hi2⟩:=hU
      refine⟨i,hi0,hi1, ?_⟩
      simp only[hL',hi2,Pj,QA,ne_eq]
      intro hij
      subst hij
      rw[hdj] at hi1;simp at hi1;exact ht hi1.symm
     ·rw[fl hU,fl]
      rintro⟨i,hi0,hi1,hi2⟩
      exact hU ⟨i,hi0,hi1,by simp only[hL',PQ] at hi2;exact hi2.1⟩
   have key:∃ so',lz P c.N ops o so'=true/\kl so'=some d/\YS P (S M).h so' (pE z (dT (sos.map dh) M (fun i=>listed.getD i false)) (S M).s) ((S M).s d):=by
    rcases ND (fX sos) j M oM with hno|⟨p,hp1,hp2,hp3,hp4⟩
    ·obtain⟨q1,q2⟩:=Dk hS M oM hMn hno
     obtain⟨q3,q4⟩:=Dk hS (a:=j+1) M oM hMn (fun i hi hi'=>hno i oM hi')
     have hv:(S M).s d=v:=by
      rw[q4 d fun i hi hi' h=>by have:=huniq j i d hdj h;omega,he]
      simp[an]
     refine⟨so,hmo j o so (by simpa using ho) hso,hd, ?_⟩
     rw[hv,q1]
     refine Bo (s:=(S j).s) (fun x hx=> ?_) hy
     cases x with
     |t n=>
      show(S j).s n=pE z _ (S M).s n
      rcases operand2 _ _ _ hxs n hx with⟨o1,o2⟩|⟨k1,k2,b,k3,k4,k5,k6,k7,_⟩
      ·rw[fl o1,q2 n fun i hi hi' h=>by have:=o2 i h;omega]
      ·refine(first n b j k1 k3 oM oM k5 k6 ?_).symm
       rcases k7 with k7|⟨p,m1,m2,m3⟩
       ·cases so<;>simp only[JR,O5] at k7
        obtain⟨pp,hrd,_⟩:=hy
        exact Hc hrd k7 hx
       ·have:=hno p m1 oM
        rw[m3] at this;cases this
     |c v=>rfl
     |f i=>rfl
    ·have hjp:j<p:=by
      rcases O2 j p with h|h
      ·exact h
      ·obtain rfl:p=j:=by omega
       simp only[fX,hso,hX] at hp3;cases hp3
     obtain⟨sp,hsp⟩:=hget p oM
     have hpx:Cp sp=true:=by simpa[fX,hsp] using hp3
     have hpo:=hord1 p ops[p] sp (PL oM) hsp
     simp only[BU,Oz] at hpo
     have hl:=Pa.1 hpo.2 j (PI.2 hjp)
     simp only[hso,hX,hpx,OS,Pj,O5,Pp,O3] at hl
     have hlp:=hbef p hp2 hp3
     have hrer0:Co (S (p+1)) (zi sp):=by
      cases sp<;>simp[Cp] at hpx
      ·obtain⟨_,_,_,hrer⟩:=hS p _ hsp;exact hrer
      ·obtain⟨_,_,_,_,_,_,_,_,_,_,hrer⟩:=hS p _ hsp;exact hrer
     rcases hl with(hl|hl)|hl
     rotate_left 2
     ·obtain⟨d2,fid,args,ts,e1,e2,e3⟩:=xm hl hrer0
      rw[hso] at e1;simp only[Oy] at e1;subst e1
      simp only[kl,Oy] at hd;subst hd
      obtain⟨q1,q2⟩:=Dk hS (a:=p+1) M oM hMn (fun i hi hi'=>hp4 i oM hi')
      have hslot:∀ n,n∈ts->(.t n:SX)∈args->(S j).s n=(S M).s n/\pE z (dT (sos.map dh) M (fun i=>listed.getD i false)) (S M).s n=(S M).s n/\((S M).s n).firm=true:=fun n hn hna=>by
       obtain⟨o1,o2⟩:=operand _ ⟨_,by simpa only[Of] using hxs⟩ n (by simp[Jj,hna])
       have h1:(S M).s n=(S (p+1)).s n:=q2 n fun i hi hi' h=>by have:=o2 i h;omega
       have h2:=Ag e3 n hn
       have h3:=BR hS (a:=j) (n:=n) (p+1) oM oM (fun i hi hi' h=>by have:=o2 i h;omega) h2
       exact⟨by rw[h1,h3],fl o1,by rw[h1];exact h2⟩
      have hev:∀ x∈args,ev (S j).s x=ev (pE z (dT (sos.map dh) M (fun i=>listed.getD i false)) (S M).s) x/\∃ v,(ev (S j).s x).toDV=some v:=fun x hx=>by
       rcases e2 x hx with⟨n,rfl,hn⟩|⟨v,rfl,hv⟩
       ·obtain⟨k1,k2,k3⟩:=hslot n hn hx
        refine⟨by simp only[ev];rw[k2,k1], ?_⟩
        simp only[ev];rw[k1];exact Dj _ k3
       ·exact⟨rfl,Pu.1 hv⟩
      have hmap:args.map (ev (pE z (dT (sos.map dh) M (fun i=>listed.getD i false)) (S M).s))=args.map (ev (S j).s):=PM fun x hx=>((hev x hx).1).symm
      obtain⟨ds,hds⟩:∃ ds,SV.toDVs (args.map (ev (S j).s))=some ds:=by
       have:∀ l:List SX,(∀ x∈l,∃ v,(ev (S j).s x).toDV=some v)->∃ ds,SV.toDVs (l.map (ev (S j).s))=some ds:=fun l=>by
        induction l with
        |nil=>intro _;exact⟨[],rfl⟩
        |cons x l ih=>
         intro h
         obtain⟨v,hv⟩:=h x oS
         obtain⟨ds,hds⟩:=ih fun y hy=>h y (by simp[hy])
         exact⟨v::ds,by simp only[OQ,SV.toDVs,hv,hds]⟩
       exact this args fun x hx=>(hev x hx).2
      simp only[YS,ev,kw _ _ _ hds] at hy
      obtain⟨res,y1,_,rfl⟩:=hy
      have hvM:(S M).s d2= .d res:=Lj hS (a:=j+1) (by rw[he];simp[aH]) M oM hMn fun i hi hi' h=>by have:=huniq j i d2 hdj h;omega
      refine⟨.c d2 (.f fid) args,hmo j o _ (by simpa using ho) hso,rfl, ?_⟩
      simp only[YS,ev,hmap,kw _ _ _ hds]
      exact⟨res,y1,.inl (by rw[hds];rfl),hvM⟩
     ·exfalso
      have:=mi hcl p [p] (by simpa using hlp) hl
      rw[hnl] at this;cases this
     ·have hrer:Co (S (p+1)) (zi sp):=by
       cases sp<;>simp[Cp] at hpx
       ·obtain⟨_,_,_,hrer⟩:=hS p _ hsp;exact hrer
       ·obtain⟨_,_,_,_,_,_,_,_,_,_,hrer⟩:=hS p _ hsp;exact hrer
      obtain⟨d2,op2,o2,k1,k2,kk⟩:=Ah hl hrer
      rw[ho] at k2;simp only[Oy] at k2;subst k2
      rw[hdj] at k1;simp only[Oy] at k1;subst k1
      obtain⟨q1,q2⟩:=Dk hS (a:=p+1) M oM hMn (fun i hi hi'=>hp4 i oM hi')
      have hvd:(S M).s d=(S (p+1)).s d:=q2 d fun i hi hi' h=>by have:=huniq j i d hdj h;omega
      have hsame:∀ (xs:List SX) (fo:Bool),tY kp fo true ops sos (sos.map dh) j o xs=true->∀ n,.t n∈xs->(fo=true->((S (p+1)).s n).firm=true)->pE z (dT (sos.map dh) M (fun i=>listed.getD i false)) (S M).s n=(S (p+1)).s n:=fun xs fo hxs n hx hfm=>by
       rcases operand2 _ _ _ hxs n hx with⟨o1,o3⟩|⟨m1,m2,b,m3,m4,m5,m6,_,m7⟩
       ·rw[fl o1,q2 n fun i hi hi' h=>by have:=o3 i h;omega]
       ·have:=m7 p hp2 hp3
        exact first n b (p+1) m1 m3 oM oM m5 m6 (hfm m2)
      have hfirm:∀ {op2:uk} {v:SV} {pp:Prop},rd (S (p+1)).h (S (p+1)).s op2=some (pp,v)->∀ n,.t n∈rM op2->(uL op2||BQ op2 (zi sp))=true->((S (p+1)).s n).firm=true:=fun hv n hn hf=>by
       rw[O3] at hf
       rcases hf with hf|hf
       ·exact Hc hv hf hn
       ·exact Gx hf hrer hn
      rcases kk with⟨k3,k4,k5,pp,k6,k7⟩|⟨gt,gw,k4,k5,pp,k6,k7⟩
      ·refine⟨.r d op2,by simp only[lz,k3,k4];rfl,rfl,pp, ?_,k7⟩
       rw[q1,hvd,<-k6]
       refine Bn fun x hx=> ?_
       cases x with
       |t n=>exact hsame _ _ k5 n hx (hfirm k6 n hx)
       |c v=>rfl
       |f i=>rfl
      ·have hgs:((S (p+1)).s gt).firm=true:=by
        simp only[MD] at k6
        split at k6
        ·rename_i hb;rw[hb];rfl
        ·rename_i hb;rw[hb];rfl
        ·cases k6
       have e1:=hsame _ _ k5 gt oS (fun _=>hgs)
       refine⟨.g gt gw (some d) (.r d op2),k4,by simp[kl], ?_⟩
       simp only[YS]
       simp only[MD] at k6
       split at k6
       ·rename_i b hb
        split at k6
        ·rename_i hbw
         refine .inl ⟨b,e1.trans hb,.inl ⟨hbw,pp, ?_,k7⟩⟩
         rw[q1,hvd,<-k6]
         refine Bn fun x hx=> ?_
         cases x with
         |t n=>exact hsame _ _ k5 n (Pk _ hx) (hfirm k6 n hx)
         |c v=>rfl
         |f i=>rfl
        ·rename_i hbw
         simp only[Oy,OB] at k6
         refine .inl ⟨b,e1.trans hb,.inr ⟨?_,hvd.trans k6.2.symm⟩⟩
         exact Lk hbw
       ·rename_i hb
        simp only[Oy,OB] at k6
        exact .inr ⟨e1.trans hb,hvd.trans k6.2.symm⟩
       ·cases k6
   obtain⟨so',hm',hd',hy'⟩:=key
   refine wi hr hm' (ET hd' hy') fun σ' κ' φ' a' w' hr' hk=> ?_
   subst hk
   refine ih (listed.setIfInBounds j true) M κ' φ' a' w' (by simp[hls]) hli hcl' hMn ?_ hM ?_ ?_
   ·intro i hi hx;rw[hL',hbef i hi hx];rfl
   ·intro i hi;rw[hL',hun i hi];simp;omega
   ·rw[<-hstate];exact hr'
theorem Gz {ops:Array Oper} {sos:List SO} {K:St->Prop} {Q:Exit->Act->World->Prop} {σ:St} {a:Act} {w:World}
  (hQ:∀ σ' κ' φ' a' w',cE c σ' κ' φ' a' w'->K σ'->Q .normal a' w') (hm:aY P c.N ops ops.toList sos=true) (hord:Ar true P c.N ops sos (sos.map dh) 0 ops.toList sos=true) (himp:∀ U,∃ κ' φ',cE c ⟨pE (rO σ.s) U σ.s,σ.h⟩ κ' φ' a w) (h:bh P K sos σ):
  wpAny P .any ops Q ops.size (Array.replicate ops.size false) a {w with drawn:=w.drawn+1}:=by
 obtain⟨hml,hmo⟩:=nr hm
 have hlen:sos.length=ops.size:=by simp at hml;omega
 obtain⟨S,hS0,hS,hK⟩:=Hb sos σ (fun so hso=>by
  obtain⟨j,hj,hj2⟩:=List.getElem_of_mem hso
  have:=BV hord j ops[j] so oS (by rw[OJ hj,hj2])
  simp only[BU,Oz] at this
  exact this.1.1.1.1) h
 obtain⟨M,h1,h2,h3,h4⟩:=Mh (fX sos) sos.length 0 oM
 have hrep:∀ i,(Array.replicate ops.size false).getD i false=false:=fun i=>by
  by_cases hi:i<ops.size<;>simp[hi]
 obtain⟨κ',φ',hr⟩:=himp (dT (sos.map dh) M (fun i=>(Array.replicate ops.size false).getD i false))
 refine Gy (c:=c) hQ hm (H9 σ.s) (fun _ t h=>by rw[hS0] at h⊢;simp[rO,h]) (fun t=>by rw[hS0];exact Fm σ.s t) hord hS hK ops.size _ M κ' φ' a _ oS ?_ ?_ h2 ?_ h4 (fun i _=>hrep i) ?_
 ·have:C5 ops.size (Array.replicate ops.size false)=List.range ops.size:=by
   unfold C5
   rw[Qz]
   intro i hi
   simp at hi
   simp[hi]
  rw[this];simp
 ·intro i o hi
  rw[hrep] at hi;cases hi
 ·intro i hi hx
  rw[h3 i oM hi] at hx;cases hx
 ·obtain⟨q1,q2⟩:=Dk hS M h1 h2 (fun i hi hi'=>h3 i hi hi')
  rw[q1,hS0]
  have:pE (rO σ.s) (dT (sos.map dh) M (fun i=>(Array.replicate ops.size false).getD i false)) (S M).s=pE (rO σ.s) (dT (sos.map dh) M (fun i=>(Array.replicate ops.size false).getD i false)) σ.s:=by
   refine H8 fun t ht=> ?_
   rw[q2 t fun i hi hi' he=>ht ⟨i,hi',he,hrep i⟩,hS0]
  rw[this]
  exact hr.grown ((Below.refl _ _).drew)
theorem Eb (hmix:P.follows .mixedOrders=true) {id:Nat} {ops:Array Oper} {sos:List SO} {K:St->Prop} {Q:Exit->Act->World->Prop} {σ:St} {a:Act} {w:World}
  (hQ:∀ σ' κ' φ' a' w',cE c σ' κ' φ' a' w'->K σ'->Q .normal a' w') (hm:aY P c.N ops ops.toList sos=true) (hord:Ar true P c.N ops sos (sos.map dh) 0 ops.toList sos=true) (himp:∀ U,∃ κ' φ',cE c ⟨pE (rO σ.s) U σ.s,σ.h⟩ κ' φ' a w) (h:bh P K sos σ):
  (Code.region id ops true).wp P Q a w:=wp_region_any hmix (Gz hQ hm hord himp h)
end
def Ai (π:List Nat) (ops:Array Oper):Array Oper:=
 (π.filterMap fun i=>(ops[i]?).map fun o=>{o with after:=o.after.map fun e=>{e with on:=π.idxOf e.on}}).toArray
def JU (π:List Nat) (ops:Array Oper):Bool:=
 π.length==ops.size&&π.all (fun i=>decide (i<ops.size))&&(List.range ops.size).all (fun i=>π.contains i)&&decide π.Nodup&&ops.all (fun o=>o.guard==none)
def Ec (ops:Array Oper) (j i:Nat):Array Oper:=match ops[j]? with
 |some o=>ops.setIfInBounds j {o with after:=o.after.push ⟨i,.data⟩}
 |none=>ops
def MR (i:Nat) (ops:Array Oper) (π:List Nat) (s1 s2:List SO):Bool:=
 ops.all (fun o=>o.guard==none)&&decide (i+1<ops.size)&&(List.range i).all (fun k=>π[k]?==some k&& !fX s1 k)&&π[i]?==some (i+1)&&π[i+1]?==some i&&fX s1 i&&fX s2 i&&(List.range ops.size).all (fun k=>decide (k<i+2)||π[k]?==some k)
