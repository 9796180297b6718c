/-
  Laws on the way to the theorem.
-/
import Derived.Test.YteaolfcegaidpaaGreatDoorBZ8
namespace Go.Proofs.YteaolfcegaidpaaGreatDoor
open Go.RowKit
set_option linter.unusedSimpArgs false
set_option linter.unusedVariables false
variable {d:ay} {e r:Int}
abbrev Fl:=ac
variable {b:Fl}
def qS (k e r p:Int):Fl:=⟨k,0,⟨e,r,p⟩,[]⟩
def wJ (l:List (List UInt8)):Bool:=l.all fun t=>decide (t=[])
def fQ (d:aM) (s:List UInt8) (e r p:Int):List Fl:=
 if s=[] then(if d.fNeeded=true then[qS 8 e r p] else[])
 else(if(s.length:Int)<d.fMin then[qS 9 e r p] else[])++(if d.fMax<(s.length:Int) then[qS 10 e r p] else[])++(if tx d.fType s=true then[] else[qS 11 e r p])++(if d.fCodes=[]\/d.fCodes.contains s=true then[] else[qS 12 e r p])
def jD (d:ay) (l:List (List UInt8)) (e r:Int):List Fl:=
 (if wJ l=true then[qS 8 e r 0] else dK (fun i p=>fQ p (l.getD i []) e r ((i+1:Nat):Int)) 0 d.fParts)++(if d.fParts.length<l.length then[qS 7 e r ((d.fParts.length+1:Nat):Int)] else[])
def gX (d:ay) (x:List (List (List UInt8))) (e:Int):List Fl:=
 if x.all wJ=true then(if d.fNeeded=true then[qS 8 e 0 0] else[])
 else dK (fun k l=>jD d l e ((k+1:Nat):Int)) 0 (x.take d.fMost.toNat)++(if d.fMost<(x.length:Int) then[qS 6 e (d.fMost+1) 0] else[])
def fR (s:af) (i:Nat):List (List (List UInt8)):=match s.fElements[i]? with|some x=>x.fRepeats|none=>[]
def oz (d:Df) (s:af):List Fl:=
 dK (fun i x=>gX x (fR s i) ((i+1:Nat):Int)) 0 d.fElements++(if d.fElements.length<s.fElements.length then[qS 5 ((d.fElements.length+1:Nat):Int) 0 0] else[])
def FX (a b:Fl):Bool:=decide (a.fAt.fElement<b.fAt.fElement\/(a.fAt.fElement=b.fAt.fElement/\(a.fAt.fRepeat<b.fAt.fRepeat\/(a.fAt.fRepeat=b.fAt.fRepeat/\(a.fAt.fPart<b.fAt.fPart\/(a.fAt.fPart=b.fAt.fPart/\a.fKind<b.fKind))))))
def R0 (a b:Fl):Prop:=FX b a=false
theorem Az {α β:Type} {R:β->β->Prop} (B:Nat->β->Prop) (g:Nat->α->List β):∀ (l:List α) (i:Nat),(∀ j x b,x∈l->b∈g j x->B j b)->(∀ j k a b,j<k->B j a->B k b->R a b)->(∀ j x,x∈l->(g j x).Pairwise R)->
  (dK g i l).Pairwise R/\∀ b∈dK g i l,∃ j,i<=j/\j<i+l.length/\B j b
 |[],i,_,_,_=>⟨.nil,fun b h=>by simp[dK] at h⟩
 |x::l,i,h1,h2,E=>by
  obtain⟨k1,k2⟩:=Az B g l (i+1) (fun j x b hx=>h1 j x b (Tz _ hx)) h2 (fun j x hx=>E j x (Tz _ hx))
  have h0:=E i x (Tl ..)
  have hx:=h1 i x
  simp only[dK]
  refine⟨UI.2 ⟨h0,k1,fun a ha b hb=> ?_⟩,fun b hb=> ?_⟩
  ·obtain⟨j,N, -,q3⟩:=k2 b hb
   exact h2 i j a b oM (hx a (Tl ..) ha) q3
  ·rcases Ta.1 hb with hb|hb
   ·exact⟨i,S0 _,by simp only[S6];omega,hx b (Tl ..) hb⟩
   ·obtain⟨j,N,H,q3⟩:=k2 b hb
    exact⟨j,by omega,by simp only[S6];omega,q3⟩
theorem FY {d:aM} {s:List UInt8} {p:Int} (h:b∈fQ d s e r p):b.fAt=⟨e,r,p⟩/\1<=b.fKind/\b.fKind<=12:=by
 have key:∀ k:Int,1<=k->k<=12->b=qS k e r p->b.fAt=⟨e,r,p⟩/\1<=b.fKind/\b.fKind<=12:=fun k h1 h2 hb=>by rw[hb];exact⟨rfl,h1,h2⟩
 unfold fQ at h
 split at h
 ·split at h
  ·exact key 8 oM oM (Td.1 h)
  ·cases h
 ·simp only[Ta] at h
  rcases h with((h|h)|h)|h
  ·split at h
   ·exact key 9 oM oM (Td.1 h)
   ·cases h
  ·split at h
   ·exact key 10 oM oM (Td.1 h)
   ·cases h
  ·split at h
   ·cases h
   ·exact key 11 oM oM (Td.1 h)
  ·split at h
   ·cases h
   ·exact key 12 oM oM (Td.1 h)
theorem Lp (d:aM) (s:List UInt8) (e r p:Int):(fQ d s e r p).Pairwise R0:=by
 unfold fQ
 repeat' split
 all_goals simp[R0,FX,qS]
theorem Ei {l:List (List UInt8)} (h:b∈jD d l e r):b.fAt.fElement=e/\b.fAt.fRepeat=r/\1<=b.fKind/\b.fKind<=12/\0<=b.fAt.fPart/\b.fAt.fPart<=((d.fParts.length+1:Nat):Int):=by
 unfold jD at h
 rcases Ta.1 h with h|h
 ·split at h
  ·rw[Td.1 h];refine⟨rfl,rfl, ?_, ?_, ?_, ?_⟩<;>simp only[qS]<;>omega
  ·obtain⟨k,x,h1,h2⟩:=yw h
   have hk:=bM h1
   obtain⟨N,H,q3⟩:=FY h2
   rw[N];refine⟨rfl,rfl,H,q3, ?_, ?_⟩<;>simp only<;>omega
 ·split at h
  ·rw[Td.1 h];refine⟨rfl,rfl, ?_, ?_, ?_, ?_⟩<;>simp only[qS]<;>omega
  ·cases h
theorem Nj (d:ay) (l:List (List UInt8)) (e r:Int):(jD d l e r).Pairwise R0:=by
 unfold jD
 have hB:∀ j k (a b:Fl),j<k->(a.fAt=⟨e,r,((j+1:Nat):Int)⟩)->(b.fAt=⟨e,r,((k+1:Nat):Int)⟩)->R0 a b:=fun j k a b g ha hb=>by
  unfold R0 FX;rw[ha,hb];simp only[Ts];omega
 have key:=Az (R:=R0) (fun j b=>b.fAt=⟨e,r,((j+1:Nat):Int)⟩) (fun i p=>fQ p (l.getD i []) e r ((i+1:Nat):Int)) d.fParts 0 (fun j x b _ hb=>(FY hb).1) hB (fun j x _=>Lp _ _ _ _ _)
 refine UI.2 ⟨?_, ?_,fun a ha b hb=> ?_⟩
 ·split
  ·exact Ur _ _
  ·exact key.1
 ·split
  ·exact Ur _ _
  ·exact .nil
 ·split at hb
  ·rw[Td.1 hb]
   split at ha
   ·rw[Td.1 ha];unfold R0 FX qS;simp only[Ts];omega
   ·obtain⟨j,N,H,q3⟩:=key.2 a ha
    unfold R0 FX qS;rw[q3];simp only[Ts];omega
  ·cases hb
theorem FZ {x:List (List (List UInt8))} (h0:1<=d.fMost) (h:b∈gX d x e):b.fAt.fElement=e/\1<=b.fKind/\b.fKind<=12/\0<=b.fAt.fRepeat/\b.fAt.fRepeat<=d.fMost+1/\0<=b.fAt.fPart/\b.fAt.fPart<=((d.fParts.length+1:Nat):Int):=by
 unfold gX at h
 split at h
 ·split at h
  ·rw[Td.1 h];refine⟨rfl, ?_, ?_, ?_, ?_, ?_, ?_⟩<;>simp only[qS]<;>omega
  ·cases h
 ·rcases Ta.1 h with h|h
  ·obtain⟨k,y,h1,h2⟩:=yw h
   have hk:=bM h1
   rw[Tc] at hk
   obtain⟨N,H,q3,q4,q5,q⟩:=Ei h2
   refine⟨N,q3,q4, ?_, ?_,q5,q⟩<;>rw[H]<;>omega
  ·split at h
   ·rw[Td.1 h];refine⟨rfl, ?_, ?_, ?_, ?_, ?_, ?_⟩<;>simp only[qS]<;>omega
   ·cases h
theorem Lq (d:ay) (x:List (List (List UInt8))) (e:Int):(gX d x e).Pairwise R0:=by
 unfold gX
 split
 ·split
  ·exact Ur _ _
  ·exact .nil
 have hB:∀ j k (a b:Fl),j<k->(a.fAt.fElement=e/\a.fAt.fRepeat=((j+1:Nat):Int))->(b.fAt.fElement=e/\b.fAt.fRepeat=((k+1:Nat):Int))->R0 a b:=fun j k a b g ha hb=>by
  unfold R0 FX;rw[ha.1,ha.2,hb.1,hb.2];simp only[Ts];omega
 have key:=Az (R:=R0) (fun j b=>b.fAt.fElement=e/\b.fAt.fRepeat=((j+1:Nat):Int)) (fun k l=>jD d l e ((k+1:Nat):Int)) (x.take d.fMost.toNat) 0 (fun j x b _ hb=>⟨(Ei hb).1,(Ei hb).2.1⟩) hB (fun j x _=>Nj _ _ _ _)
 refine UI.2 ⟨key.1, ?_,fun a ha b hb=> ?_⟩
 ·split
  ·exact Ur _ _
  ·exact .nil
 ·split at hb
  ·rw[Td.1 hb]
   obtain⟨j,N,H,q3⟩:=key.2 a ha
   rw[Tc] at H
   unfold R0 FX qS;rw[q3.1,q3.2];simp only[Ts];omega
  ·cases hb
theorem Nk {d:Df} {s:af} (h0:∀ e∈d.fElements,1<=e.fMost) (h:b∈oz d s):1<=b.fAt.fElement/\b.fAt.fElement<=((d.fElements.length+1:Nat):Int)/\1<=b.fKind/\b.fKind<=12/\0<=b.fAt.fRepeat/\0<=b.fAt.fPart/\(b.fAt.fRepeat=0/\b.fAt.fPart=0\/∃ e∈d.fElements,b.fAt.fRepeat<=e.fMost+1/\b.fAt.fPart<=((e.fParts.length+1:Nat):Int)):=by
 unfold oz at h
 rcases Ta.1 h with h|h
 ·obtain⟨k,x,h1,h2⟩:=yw h
  have hk:=bM h1
  have hx:=ST h1
  obtain⟨N,H,q3,q4,q5,q,a⟩:=FZ (h0 x hx) h2
  exact⟨by omega,by omega,H,q3,q4,q,.inr ⟨x,hx,q5,a⟩⟩
 ·split at h
  ·rw[Td.1 h]
   refine⟨?_, ?_, ?_, ?_, ?_, ?_,.inl ⟨rfl,rfl⟩⟩<;>simp only[qS]<;>omega
  ·cases h
theorem Nl {d:Df} (s:af) (h0:∀ e∈d.fElements,1<=e.fMost):(oz d s).Pairwise R0:=by
 unfold oz
 have hB:∀ j k (a b:Fl),j<k->(a.fAt.fElement=((j+1:Nat):Int))->(b.fAt.fElement=((k+1:Nat):Int))->R0 a b:=fun j k a b g ha hb=>by
  unfold R0 FX;rw[ha,hb];simp only[Ts];omega
 have key:=Az (R:=R0) (fun j b=>b.fAt.fElement=((j+1:Nat):Int)) (fun i x=>gX x (fR s i) ((i+1:Nat):Int)) d.fElements 0 (fun j x b hx hb=>(FZ (h0 x hx) hb).1) hB (fun j x _=>Lq _ _ _)
 refine UI.2 ⟨key.1, ?_,fun a ha b hb=> ?_⟩
 ·split
  ·exact Ur _ _
  ·exact .nil
 ·split at hb
  ·rw[Td.1 hb]
   obtain⟨j,N,H,q3⟩:=key.2 a ha
   unfold R0 FX qS;rw[q3];simp only[Ts];omega
  ·cases hb
theorem RE:tf FX where
 asym a b h:=by
  simp only[FX,SU,Ts] at *
  omega
 tr a b c h1 h2:=by
  simp only[FX,Ts] at *
  omega
theorem OZ {X Y:List Fl} (hx:X.Pairwise R0) (hs:qQ FX Y) (hp:SP FX X Y):Y=X:=(Jw RE hx hs hp).symm
variable {R:Type} {c:Bool} {α β:Type} {K:List α->Option R} {x:α}
theorem G5 {a:List α} {b:List β}:decide ((a.length:Int)<(b.length:Int))=decide (a.length<b.length):=by congr 1;apply propext;omega
theorem Nm {A:Type} {m:Option A} {k:A->Option R} {a:A} {r:Option R} (h:m=some a) (hk:k a=r):m.bind k=r:=by rw[h];exact hk
structure So (p:aM):Prop where
 type:1<=p.fType/\p.fType<=5
 codes:p.fCodes.length<=1000
structure QD (e:ay):Prop where
 most:1<=e.fMost/\e.fMost<=20
 many:e.fParts.length<=20
 parts:∀ p∈e.fParts,So p
structure O0 (d:Df):Prop where
 many:d.fElements.length<=50
 elems:∀ e∈d.fElements,QD e
theorem QE {d:Df} (h:Ju d=0):O0 d:=by
 unfold Ju at h
 split at h
 ·cases h
 refine⟨by omega,fun e J=> ?_⟩
 obtain⟨_,A⟩:=AB h e J
 unfold Ci at A
 split at A
 ·cases A
 split at A
 ·cases A
 split at A
 ·cases A
 refine⟨by omega,by omega,fun p hp=> ?_⟩
 obtain⟨_,a⟩:=AB A p hp
 unfold yZ at a
 split at a
 ·cases a
 split at a
 ·cases a
 split at a
 ·cases a
 split at a
 ·cases a
 exact⟨by omega,by omega⟩
theorem J_ {l:List α} (h:l.length<=137438953471):((bif c then(some x).bind fun x=>iZ (sf (l.length+[x].length)) (some (Sum.inl (l++[x]))) else some (Sum.inl l):Option (List α⊕R)).bind (bX K))=K (l++(if c=true then[x] else[])):=by
 cases c with
 |true=>rw[SZ,SQ,dc (by simp only[Tq];omega)];rfl
 |false=>simp[bX]
theorem O1:((bif c then(some x).bind fun x=>iZ (sf (([]:List β).length+[x].length)) (some (Sum.inl [x])) else some (Sum.inl []):Option (List α⊕R)).bind (bX K))=K (if c=true then[x] else[]):=by
 cases c with
 |true=>rw[SZ,SQ,dc oS];rfl
 |false=>simp[bX]
theorem Jr (k e r p:Int):jQ k e r p=some (qS k e r p):=by
 unfold jQ lR;dsimp only
 rfl
theorem Ka (l:List (List UInt8)) (hl:l.length<=1000):fM l=some (wJ l):=by
 unfold fM lR;dsimp only
 refine Eq.trans (py l (fun t=>decide (t=[])) false (fun i e J=> ?_) ?_) ?_
 ·have hi:=bM J
  simp only[bg hi,SZ,ap,J,SQ,bQ i oM]
  by_cases hq:e=[]
  ·simp[hq]
  ·simp[hq,Ln]
 ·simp only[ao,S2];rfl
 ·show(if wJ l=true then some true else some false)=some (wJ l)
  cases wJ l<;>rfl
theorem G6 (c:Prop) [Decidable c] (x:α):(if c then[x] else[]).length<=1:=by split<;>simp
theorem Nn (d:aM) (hd:So d) {s:List UInt8} (h0:s≠[]) (hs:s.length<=1000) (Y:s.all (qR 32 126)=true) (e r p:Int):gh d s e r p=some (fQ d s e r p):=by
 unfold gh vS;dsimp only
 have j:(if d.fType=1 then s.all (qR 32 126) else tx d.fType s)=tx d.fType s:=by
  split
  ·rename_i h1;rw[Y,h1];rfl
  ·rfl
 rw[Nx s d.fType hs,j]
 simp only[Jr]
 have b1:=G6 (decide ((s.length:Int)<d.fMin)=true) (qS 9 e r p)
 have b2:=G6 (decide (d.fMax<(s.length:Int))=true) (qS 10 e r p)
 have m:=G6 ((!tx d.fType s)=true) (qS 11 e r p)
 rw[O1,J_ oM,SQ,J_ (by rw[SW];omega)]
 have hc:=b6 (R:=List Fl) (k:=bX fun u:List Fl×Bool×Int=>bif !u.snd.fst then(some (qS 12 e r p)).bind fun x=>iZ (sf (u.fst.length+[x].length)) (some (u.fst++[x])) else some u.fst)
  (ls d.fCodes (f:=fun u:List Fl×Bool×Int=>bif decide (u.snd.snd<(d.fCodes.length:Int)) then(DY u.snd.fst ((cm d.fCodes u.snd.snd).bind fun e=>some (decide (e=s)))).bind fun v=>some (Sum.inl (u.fst,v,IntKind.i64.wrap (u.snd.snd+1))) else cb (some (Sum.inl (u.fst,u.snd.fst,u.snd.snd))))
   (fun i pre=>(((if decide ((s.length:Int)<d.fMin)=true then[qS 9 e r p] else[])++(if decide (d.fMax<(s.length:Int))=true then[qS 10 e r p] else[])++if(!tx d.fType s)=true then[qS 11 e r p] else[]),decide ((d.fCodes.length:Int)=0)||pre.contains s,(i:Int)))
   (a:=(Sum.inl (((if decide ((s.length:Int)<d.fMin)=true then[qS 9 e r p] else[])++(if decide (d.fMax<(s.length:Int))=true then[qS 10 e r p] else[])++if(!tx d.fType s)=true then[qS 11 e r p] else[]),decide ((d.fCodes.length:Int)=0)||d.fCodes.contains s,(d.fCodes.length:Int)):(List Fl×Bool×Int)⊕List Fl)) (fun i c g=> ?_) ?_) rfl
 ·rw[show(((0:Nat):Int))=0 from rfl] at hc
  simp only[List.contains_nil,UN] at hc
  rw[hc]
  simp only[bX,SQ]
  unfold fQ
  rw[Ul h0,Ij]
  have b:(if(!tx d.fType s)=true then[qS 11 e r p] else[])=(if tx d.fType s=true then[] else[qS 11 e r p]):=by cases tx d.fType s<;>rfl
  rw[b] at m⊢
  by_cases hk:d.fCodes=[]\/d.fCodes.contains s=true
  ·rw[Ub hk]
   have:(!(decide (d.fCodes=[])||d.fCodes.contains s))=false:=by
    rcases hk with hk|hk
    ·rw[TG hk];rfl
    ·rw[hk,Bool.or_true];rfl
   rw[this]
   simp
  ·rw[Ul hk]
   have:(!(decide (d.fCodes=[])||d.fCodes.contains s))=true:=by
    rw[TW fun h=>hk (.inl h),TM.2 fun h=>hk (.inr h)];rfl
   rw[this,SZ,dc (by simp only[SW,Tq];omega)]
   simp
 ·have hi:=bM g
  have h7:=hd.codes
  simp only[bg hi,SZ,ap,g,SQ,bR,bQ i oM]
  congr 4
  rw[Bool.or_assoc]
  congr 1
  rw[Ti]
  simp only[Tn,UF,Ta,Td,SU]
  constructor
  ·rintro(h|h)
   ·exact .inl h
   ·exact .inr h.symm
  ·rintro(h|h)
   ·exact .inl h
   ·exact .inr h.symm
 ·simp only[ao,S2];rfl
variable {A R:Type} {i:Nat} {l:List (List UInt8)} {s:af} {K:List (List (List UInt8))->Option R}
def Sb (s:af):Prop:=s.fElements.length<=50/\∀ e∈s.fElements,e.fRepeats.length<=20/\∀ l∈e.fRepeats,l.length<=20/\∀ t∈l,t.length<=1000/\t.all (qR 32 126)=true
theorem QG {K:List UInt8->Option R}:((bif decide ((i:Int)<(l.length:Int)) then(cm l (i:Int)).bind fun e=>some (Sum.inl e) else some (Sum.inl []):Option (List UInt8⊕R)).bind (bX K))=K (l.getD i []):=by
 rw[List.getD_eq_getElem?_getD]
 cases h:l[i]? with
 |none=>
  rw[T4] at h
  rw[TW oM];rfl
 |some e=>
  rw[bg (bM h),ap,h];rfl
theorem O2 {K:List UInt8->Option R}:((bif decide ((i:Int)<(l.length:Int)) then l[i]?.bind fun e=>some (Sum.inl e) else some (Sum.inl []):Option (List UInt8⊕R)).bind (bX K))=K (l.getD i []):=by
 rw[<-ap];exact QG
theorem pz (d:aM) (s:List UInt8) (e r p:Int):(fQ d s e r p).length<=4:=by
 unfold fQ
 repeat' split
 all_goals simp
theorem Kb (h:∀ t∈l,t.length<=1000/\t.all (qR 32 126)=true) (i:Nat):(l.getD i []).length<=1000/\(l.getD i []).all (qR 32 126)=true:=by
 rw[List.getD_eq_getElem?_getD]
 cases hi:l[i]? with
 |none=>exact⟨by simp,rfl⟩
 |some t=>exact h t (ST hi)
theorem Kc {c:Bool} {l:List Fl} {x:Fl} (h:l.length<=137438953471):(bif c then(some x).bind fun x=>iZ (sf (l.length+[x].length)) (some (l++[x])) else some l)=some (l++(if c=true then[x] else[])):=by
 cases c with
 |true=>rw[SZ,SQ,dc (by simp only[Tq];omega)];rfl
 |false=>simp
theorem pA (d:ay) (hd:d.fParts.length<=20) (l:List (List UInt8)) (e r:Int):(jD d l e r).length<=82:=by
 have h1:=ew (b:=4) (f:=fun i p=>fQ p (l.getD i []) e r ((i+1:Nat):Int)) d.fParts 0 (fun i p _=>pz _ _ _ _ _)
 have h2:=G6 (d.fParts.length<l.length) (qS 7 e r ((d.fParts.length+1:Nat):Int))
 unfold jD
 rw[SW]
 split
 ·simp only[Tq];omega
 ·omega
theorem O3 (d:ay) (hd:QD d) (l:List (List UInt8)) (hl:l.length<=20/\∀ t∈l,t.length<=1000/\t.all (qR 32 126)=true) (e r:Int):dx d l e r=some (jD d l e r):=by
 unfold dx vT;dsimp only
 have Z:=hd.many
 have h8:=pA d Z l e r
 rw[Ka l oM,SQ]
 simp only[Jr]
 have G:IntKind.i64.wrap ((d.fParts.length:Int)+1)=((d.fParts.length+1:Nat):Int):=bQ _ oM
 have B:∀ X:List Fl,X.length<=100->(bif decide ((d.fParts.length:Int)<(l.length:Int)) then(some (qS 7 e r (IntKind.i64.wrap ((d.fParts.length:Int)+1)))).bind fun x=>iZ (sf (X.length+[x].length)) (some (X++[x])) else some X)=some (X++if d.fParts.length<l.length then[qS 7 e r ((d.fParts.length+1:Nat):Int)] else[]):=fun X hX=>by
  rw[Kc oM,G,G5]
  simp only[SU]
 cases c:wJ l with
 |true=>
  rw[SZ,SQ,dc oS,SQ]
  simp only[bX]
  rw[B _ oS]
  unfold jD
  rw[Ub c]
 |false=>
  rw[S2]
  have h1:=ew (b:=4) (f:=fun i p=>fQ p (l.getD i []) e r ((i+1:Nat):Int)) d.fParts 0 (fun i p _=>pz _ _ _ _ _)
  refine Nm (a:=(Sum.inl (dK (fun i p=>fQ p (l.getD i []) e r ((i+1:Nat):Int)) 0 d.fParts):List Fl⊕List Fl)) (b6 (ls d.fParts (fun i pre=>(dK (fun i p=>fQ p (l.getD i []) e r ((i+1:Nat):Int)) 0 pre,(i:Int))) (a:=(Sum.inl (dK (fun i p=>fQ p (l.getD i []) e r ((i+1:Nat):Int)) 0 d.fParts,(d.fParts.length:Int)):(List Fl×Int)⊕(List Fl⊕List Fl))) (fun i p hp=> ?_) ?_) rfl) ?_
  ·have hi:=bM hp
   have h5:=ST hp
   have g:=va hp
   have h2:=ew (b:=4) (f:=fun i p=>fQ p (l.getD i []) e r ((i+1:Nat):Int)) (d.fParts.take i) 0 (fun i p _=>pz _ _ _ _ _)
   obtain⟨g1,g2⟩:=Kb hl.2 i
   simp only[bg hi,SZ,ap,O2,hp,SQ,px,g,bQ i oM]
   by_cases h0:l.getD i []=[]
   ·rw[TG h0,h0]
    simp only[S7,S2]
    unfold fQ
    rw[Ub rfl]
    by_cases hn:p.fNeeded=true
    ·rw[hn,SZ,Ub rfl,dc (by simp only[Tq];unfold fQ at h2;omega)]
    ·rw[Ul hn,TM.2 hn];simp
   ·rw[TW h0]
    simp only[Tw,SZ]
    have o:=pz p (l.getD i []) e r ((i+1:Nat):Int)
    rw[Nn p (hd.parts p h5) h0 g1 g2,SQ,dc oM]
  ·simp only[ao,S2];rfl
  ·simp only[bX]
   rw[B _ oM]
   unfold jD
   rw[Ul (show¬ wJ l=true by rw[c];simp)]
theorem tb (d:ay) (hd:QD d) (x:List (List (List UInt8))) (e:Int):(gX d x e).length<=1641:=by
 have Z:=hd.most
 have h1:=ew (b:=82) (f:=fun k l=>jD d l e ((k+1:Nat):Int)) (x.take d.fMost.toNat) 0 (fun i l _=>pA d hd.many _ _ _)
 have h2:=G6 (d.fMost<(x.length:Int)) (qS 6 e (d.fMost+1) 0)
 have E:(x.take d.fMost.toNat).length<=20:=by rw[Tc];omega
 unfold gX
 split
 ·split<;>simp
 ·rw[SW]
  omega
theorem Lr (d:Df) (hd:O0 d) (s:af):(oz d s).length<=82051:=by
 have Z:=hd.many
 have h1:=ew (b:=1641) (f:=fun i x=>gX x (fR s i) ((i+1:Nat):Int)) d.fElements 0 (fun i x hx=>tb x (hd.elems x hx) _ _)
 have h2:=G6 (d.fElements.length<s.fElements.length) (qS 5 ((d.fElements.length+1:Nat):Int) 0 0)
 unfold oz
 rw[SW]
 omega
theorem F0 (h:Sb s) (i:Nat):(fR s i).length<=20/\∀ l∈fR s i,l.length<=20/\∀ t∈l,t.length<=1000/\t.all (qR 32 126)=true:=by
 unfold fR
 cases hi:s.fElements[i]? with
 |none=>exact⟨by simp,fun l hl=>by cases hl⟩
 |some e=>exact h.2 e (ST hi)
theorem Np:((bif decide ((i:Int)<(s.fElements.length:Int)) then(cm s.fElements (i:Int)).bind fun e=>some (Sum.inl e.fRepeats) else some (Sum.inl []):Option (List (List (List UInt8))⊕R)).bind (bX K))=K (fR s i):=by
 unfold fR
 cases h:s.fElements[i]? with
 |none=>
  rw[T4] at h
  rw[TW oM];rfl
 |some e=>
  rw[bg (bM h),ap,h];rfl
theorem Ls:((bif decide ((i:Int)<(s.fElements.length:Int)) then s.fElements[i]?.bind fun e=>some (Sum.inl e.fRepeats) else some (Sum.inl []):Option (List (List (List UInt8))⊕R)).bind (bX K))=K (fR s i):=by
 rw[<-ap];exact Np
theorem Lt (l:List (List (List UInt8))) (hl:l.length<=1000/\∀ x∈l,x.length<=1000):(bJ (fun s:Bool×Int=>bif decide (s.snd<(l.length:Int)) then(hY s.fst ((cm l s.snd).bind fun e=>(fM e).bind fun x=>some x)).bind fun v=>some (Sum.inl (v,IntKind.i64.wrap (s.snd+1))) else cb (some (Sum.inl (s.fst,s.snd)))) (true,0):Option ((Bool×Int)⊕A))=some (Sum.inl (l.all wJ,(l.length:Int))):=by
 refine ls l (fun k pre=>(pre.all wJ,(k:Int))) (a:=(Sum.inl (l.all wJ,(l.length:Int)):(Bool×Int)⊕A)) (fun k e J=> ?_) ?_
 ·have hk:=bM J
  simp only[bg hk,SZ,ap,J,SQ,Ka e (hl.2 e (ST J)),aY,bQ k oM]
  simp
 ·simp only[ao,S2];rfl
theorem Lu (x:ay) (hx:QD x) (l:List (List (List UInt8))) (hl:l.length<=20/\∀ q∈l,q.length<=20/\∀ t∈q,t.length<=1000/\t.all (qR 32 126)=true) (X:List Fl) (hX:X.length<=1000000) (e:Int):
  (bJ (fun s:List Fl×Int=>(hY (decide (s.snd<(l.length:Int))) (some (decide (s.snd<x.fMost)))).bind fun v=>bif v then(cm l s.snd).bind fun F=>(dx x F e (IntKind.i64.wrap (s.snd+1))).bind fun y=>iZ (sf (s.fst.length+y.length)) (some (Sum.inl (s.fst++y,IntKind.i64.wrap (s.snd+1)))) else cb (some (Sum.inl (s.fst,s.snd)))) (X,0):Option ((List Fl×Int)⊕A))=
   some (Sum.inl (X++dK (fun k q=>jD x q e ((k+1:Nat):Int)) 0 (l.take x.fMost.toNat),((l.take x.fMost.toNat).length:Int))):=by
 have u0:=hx.most
 have K:(X,(0:Int))=(X++dK (fun k q=>jD x q e ((k+1:Nat):Int)) 0 [],((0:Nat):Int)):=by simp[dK]
 rw[K]
 refine ls (l.take x.fMost.toNat) (fun k pre=>(X++dK (fun k q=>jD x q e ((k+1:Nat):Int)) 0 pre,(k:Int))) (a:=(Sum.inl (X++dK (fun k q=>jD x q e ((k+1:Nat):Int)) 0 (l.take x.fMost.toNat),((l.take x.fMost.toNat).length:Int)):(List Fl×Int)⊕A)) (fun k q hq=> ?_) ?_
 ·have hk:=bM hq
  have g:=va hq
  have h9:k<x.fMost.toNat/\k<l.length:=by rw[Tc] at hk;omega
  rw[List.getElem?_take_of_lt h9.1] at hq
  have m:=ST hq
  have h8:=ew (b:=82) (f:=fun k q=>jD x q e ((k+1:Nat):Int)) ((l.take x.fMost.toNat).take k) 0 (fun i q _=>pA x hx.many _ _ _)
  have L:=pA x hx.many q e ((k+1:Nat):Int)
  simp only[bg h9.2,aY,SQ,S8,ap,hq,bQ k oM,px,g]
  rw[TG (show(k:Int)<x.fMost by omega),SZ,O3 x hx q (hl.2 q m),SQ,dc (by rw[SW];omega),S4]
 ·have:(decide (((l.take x.fMost.toNat).length:Int)<(l.length:Int))&&decide (((l.take x.fMost.toNat).length:Int)<x.fMost))=false:=by
   rw[Tc,TU]
   simp only[Ts]
   omega
  simp only[aY,SQ,this,S2];rfl
theorem O4 (d:Df) (hd:O0 d) (s:af) (hs:Sb s):jj d s=some (oz d s):=by
 unfold jj vU;dsimp only
 have Z:=hd.many
 simp only[Jr]
 refine b6 (ls d.fElements (fun i pre=>(dK (fun i x=>gX x (fR s i) ((i+1:Nat):Int)) 0 pre,(i:Int))) (a:=(Sum.inl (dK (fun i x=>gX x (fR s i) ((i+1:Nat):Int)) 0 d.fElements,(d.fElements.length:Int)):(List Fl×Int)⊕List Fl)) (fun i x hx=> ?_) ?_) ?_
 ·have hi:=bM hx
  have v:=ST hx
  have M:=hd.elems x v
  have u0:=M.most
  have g:=va hx
  obtain⟨g1,g2⟩:=F0 hs i
  have h8:=ew (b:=1641) (f:=fun i x=>gX x (fR s i) ((i+1:Nat):Int)) (d.fElements.take i) 0 (fun i x hx=>tb x (hd.elems x (Ig hx)) _ _)
  rw[g] at h8
  simp only[bg hi,SZ,ap,Ls,hx,SQ,px,g,bQ i oM]
  rw[Lt _ ⟨by omega,fun q hq=>by have:=(g2 q hq).1;omega⟩,SQ]
  simp only[bX]
  unfold gX
  cases hb:(fR s i).all wJ with
  |true=>
   rw[SZ,Ub rfl]
   by_cases hn:x.fNeeded=true
   ·rw[hn,SZ,Ub rfl,dc (by simp only[Tq];unfold gX at h8;omega)]
   ·rw[Ul hn,TM.2 hn];simp
  |false=>
   rw[S2,Ul oS,Lu x M _ ⟨g1,g2⟩ _ (by unfold gX at h8;omega),SQ]
   simp only[bX]
   have h1:=ew (b:=82) (f:=fun k l=>jD x l ((i+1:Nat):Int) ((k+1:Nat):Int)) ((fR s i).take x.fMost.toNat) 0 (fun i l _=>pA x M.many _ _ _)
   have E:((fR s i).take x.fMost.toNat).length<=20:=by rw[Tc];omega
   have c:IntKind.i64.wrap (x.fMost+1)=x.fMost+1:=bp _ oM oM
   simp only[c]
   by_cases hc:x.fMost<((fR s i).length:Int)
   ·rw[Ub hc,TG hc,SZ,dc (by simp only[SW,Tq];unfold gX at h8;omega)]
    simp
   ·rw[Ul hc,TW hc];simp
 ·simp only[ao,S2];rfl
 ·simp only[bX]
  have h8:=ew (b:=1641) (f:=fun i x=>gX x (fR s i) ((i+1:Nat):Int)) d.fElements 0 (fun i x hx=>tb x (hd.elems x hx) _ _)
  rw[Kc oM,G5,bQ _ oM]
  unfold oz
  simp only[SU]
variable {c:Bool} {e k:Int} {l:List Fl} {p r:Int}
theorem Ej {α:Type} (l:List α) (q:α->Bool) {f:Int->Option (Int⊕(Int⊕Int))} (hb:∀ (i:Nat) (e:α),l[i]?=some e->f (i:Int)=if q e=true then some (.inr (.inr (i:Int))) else some (.inl ((i+1:Nat):Int))) (J:f (l.length:Int)=some (.inr (.inl (l.length:Int)))):
  ∃ n,(bJ f 0).bind (bX fun _=>some (-1))=some n/\decide (0<=n)=l.any q:=by
 refine lu (X:=Nat) (fun i=>((i:Nat):Int)) (fun i=>l.length - i) (fun i=>i<=l.length/\(l.take i).any q=false) ?_ 0 ⟨To _,by simp⟩
 rintro i ⟨h1,h2⟩
 rcases Th i l.length with hi|hi
 ·obtain⟨e,hx⟩:=dY hi
  by_cases hq:q e=true
  ·refine .inr ⟨_,(i:Int),by rw[hb i e hx,Ub hq],rfl, ?_⟩
   have:l.any q=true:=Uu.2 ⟨e,ST hx,hq⟩
   rw[this];simp
  ·refine .inl ⟨i+1,⟨hi, ?_⟩,by omega,by rw[hb i e hx,Ul hq]⟩
   rw[eu hx,List.any_append,h2]
   simp[hq]
 ·have hl:i=l.length:=by omega
  subst hl
  rw[TV] at h2
  exact .inr ⟨_, -1,J,rfl,by rw[h2];rfl⟩
theorem Js (l:List (List UInt8)) (x:List UInt8) (hl:l.length<=1000):eL l x=some (l.contains x):=by
 unfold eL gf;dsimp only
 unfold j5 cW;dsimp only
 obtain⟨n,h1,h2⟩:=Ej l (fun e=>decide (x=e)) (f:=fun s:Int=>bif decide (s<(l.length:Int)) then(cm l s).bind fun e=>bif decide (x=e) then cb (cb (some s)) else some (Sum.inl (IntKind.i64.wrap (s+1))) else cb (some (Sum.inl s))) (fun i e J=>by
  have hi:=bM J
  simp only[bg hi,SZ,ap,J,SQ,bQ i oM]
  by_cases hx:x=e
  ·rw[TG hx];rfl
  ·rw[TW hx];rfl) (by simp only[ao,S2];rfl)
 rw[h1,SQ,h2]
 congr 1
 rw[List.contains_eq_any_beq]
 congr 1
 funext e
 rw[Ti];simp
theorem RF (l:List (List UInt8)) (hl:l.length<=1000) (j:FuncId) (c1:List DV) (d:List UInt8->Option Bool) (h1) (q:List UInt8->Bool) (hq:∀ a∈l,d a=some (q a)):du l j c1 d h1=some (l.any q):=by
 unfold du gf;dsimp only
 unfold hw cW;dsimp only
 obtain⟨n,h1,h2⟩:=Ej l q (f:=fun s:Int=>bif decide (s<(l.length:Int)) then(cm l s).bind fun e=>(d e).bind fun x=>bif x then cb (cb (some s)) else some (Sum.inl (IntKind.i64.wrap (s+1))) else cb (some (Sum.inl s))) (fun i e J=>by
  have hi:=bM J
  simp only[bg hi,SZ,ap,J,SQ,hq e (ST J),bQ i oM]
  cases q e<;>rfl) (by simp only[ao,S2];rfl)
 rw[h1,SQ,h2]
theorem RG (l:List (List (List UInt8))) (hl:l.length<=1000) (j:FuncId) (c1:List DV) (d:List (List UInt8)->Option Bool) (h1) (q:List (List UInt8)->Bool) (hq:∀ a∈l,d a=some (q a)):bW l j c1 d h1=some (l.any q):=by
 unfold bW gf;dsimp only
 unfold gu cW;dsimp only
 obtain⟨n,h1,h2⟩:=Ej l q (f:=fun s:Int=>bif decide (s<(l.length:Int)) then(cm l s).bind fun e=>(d e).bind fun x=>bif x then cb (cb (some s)) else some (Sum.inl (IntKind.i64.wrap (s+1))) else cb (some (Sum.inl s))) (fun i e J=>by
  have hi:=bM J
  simp only[bg hi,SZ,ap,J,SQ,hq e (ST J),bQ i oM]
  cases q e<;>rfl) (by simp only[ao,S2];rfl)
 rw[h1,SQ,h2]
theorem Kd (l:List (List UInt8)) (hl:l.length<=1000):pm l=some (wJ l):=by
 unfold pm vM;dsimp only
 rw[RF l hl _ _ _ _ (fun s=> !decide (s=[])) (fun a _=>by
  unfold sU cW;dsimp only),Option.bind_some]
 unfold wJ
 rw[List.all_eq_not_any_not]
theorem F1 (h:l.length<=137438953471):bu ⟨l⟩ k e r p=some ((),⟨l++[qS k e r p]⟩):=by
 unfold bu vL;dsimp only
 rw[dc (by simp only[Tq];omega)];rfl
theorem G7 {R:Type} {K:List Fl->Option R} (h:l.length<=137438953471):
  ((bif c then((bu ⟨l⟩ k e r p).bind fun y=>some (Sum.inl y.snd.fflaws)).bind (bX fun s=>some (Sum.inl s)) else some (Sum.inl l):Option (List Fl⊕R)).bind (bX K))=K (l++if c=true then[qS k e r p] else[]):=by
 cases c with
 |true=>rw[SZ,F1 h];rfl
 |false=>simp[bX]
theorem F2 (h:l.length<=137438953471):
  (bif c then(bu ⟨l⟩ k e r p).bind fun y=>some ((),({fflaws:=y.snd.fflaws}:aU)) else some ((),{fflaws:=l}))=some ((),⟨l++if c=true then[qS k e r p] else[]⟩):=by
 cases c with
 |true=>rw[SZ,F1 h];rfl
 |false=>simp
theorem Ek (h:l.length<=137438953471):
  (bif c then((bu ⟨l⟩ k e r p).bind fun y=>some (Sum.inl y.snd.fflaws)).bind (bX fun s=>some ((),({fflaws:=s}:aU))) else some ((),{fflaws:=l}))=some ((),⟨l++if c=true then[qS k e r p] else[]⟩):=by
 cases c with
 |true=>rw[SZ,F1 h];rfl
 |false=>simp
theorem Nq (d:aM) (hd:So d) (s:List UInt8) (hs:s.length<=1000) (a:po) (l:List Fl) (hl:l.length<=1000000):en ⟨l⟩ d s a=some ((),⟨l++fQ d s a.fElement a.fRepeat a.fPart⟩):=by
 unfold en vN;dsimp only
 unfold fQ
 by_cases h0:s=[]
 ·rw[TG h0,SZ,Ub h0,Ek oM]
 ·rw[TW h0,S2,Ul h0]
  have b1:=G6 (decide ((s.length:Int)<d.fMin)=true) (qS 9 a.fElement a.fRepeat a.fPart)
  have b2:=G6 (decide (d.fMax<(s.length:Int))=true) (qS 10 a.fElement a.fRepeat a.fPart)
  have m:=G6 ((!tx d.fType s)=true) (qS 11 a.fElement a.fRepeat a.fPart)
  have b:(if(!tx d.fType s)=true then[qS 11 a.fElement a.fRepeat a.fPart] else[])=(if tx d.fType s=true then[] else[qS 11 a.fElement a.fRepeat a.fPart]):=by cases tx d.fType s<;>rfl
  rw[G7 oM,G7 (by rw[SW];omega),Er s d.fType h0 hs,SQ,G7 (by rw[SW,SW];omega),Js _ _ hd.codes]
  simp only[SQ,aY,Nu]
  rw[Ek (by simp only[SW];omega),b]
  have c:(if(!decide (d.fCodes=[])&& !d.fCodes.contains s)=true then[qS 12 a.fElement a.fRepeat a.fPart] else[])=(if d.fCodes=[]\/d.fCodes.contains s=true then[] else[qS 12 a.fElement a.fRepeat a.fPart]):=by
   by_cases hk:d.fCodes=[]\/d.fCodes.contains s=true
   ·rw[Ub hk,Ul]
    rcases hk with hk|hk
    ·simp[hk]
    ·rw[hk];simp
   ·rw[Ul hk,Ub]
    rw[TW fun h=>hk (.inl h),TM.2 fun h=>hk (.inr h)];rfl
  rw[c]
  simp only[SU,S4]
theorem O5 (d:ay) (hd:QD d) (q:List (List UInt8)) (hq:q.length<=20/\∀ t∈q,t.length<=1000/\t.all (qR 32 126)=true) (e r:Int) (l:List Fl) (hl:l.length<=900000):dU ⟨l⟩ d q e r=some ((),⟨l++jD d q e r⟩):=by
 unfold dU vP;dsimp only
 have Z:=hd.many
 rw[Kd q oM,SQ]
 have G:IntKind.i64.wrap ((d.fParts.length:Int)+1)=((d.fParts.length+1:Nat):Int):=bQ _ oM
 have B:∀ X:List Fl,X.length<=1000000->(bif decide ((d.fParts.length:Int)<(q.length:Int)) then(bu {fflaws:=X} 7 e r (IntKind.i64.wrap ((d.fParts.length:Int)+1))).bind fun y=>some ((),({fflaws:=y.snd.fflaws}:aU)) else some ((),{fflaws:=X}))=some ((),⟨X++if d.fParts.length<q.length then[qS 7 e r ((d.fParts.length+1:Nat):Int)] else[]⟩):=fun X hX=>by
  rw[F2 oM,G,G5]
  simp only[SU]
 unfold jD
 cases c:wJ q with
 |true=>
  rw[SZ,F1 oM,SQ]
  dsimp only
  rw[B _ (by simp only[SW,Tq];omega),Ub rfl,S4]
 |false=>
  rw[S2,Ul oS]
  have h1:=ew (b:=4) (f:=fun i p=>fQ p (q.getD i []) e r ((i+1:Nat):Int)) d.fParts 0 (fun i p _=>pz _ _ _ _ _)
  rw[show(l,(0:Int))=(l++dK (fun i p=>fQ p (q.getD i []) e r ((i+1:Nat):Int)) 0 [],((0:Nat):Int)) by simp[dK]]
  refine b6 (ls d.fParts (fun i pre=>(l++dK (fun i p=>fQ p (q.getD i []) e r ((i+1:Nat):Int)) 0 pre,(i:Int))) (a:=(Sum.inl (l++dK (fun i p=>fQ p (q.getD i []) e r ((i+1:Nat):Int)) 0 d.fParts,(d.fParts.length:Int)):(List Fl×Int)⊕(Unit×aU))) (fun i p hp=> ?_) ?_) ?_
  ·have hi:=bM hp
   have h5:=ST hp
   have g:=va hp
   have h2:=ew (b:=4) (f:=fun i p=>fQ p (q.getD i []) e r ((i+1:Nat):Int)) (d.fParts.take i) 0 (fun i p _=>pz _ _ _ _ _)
   obtain⟨g1,g2⟩:=Kb hq.2 i
   have j:∀ (X:List Fl) (R:Type) (K:List Fl×List UInt8->Option R),((bif decide ((i:Int)<(q.length:Int)) then q[i]?.bind fun e=>some (Sum.inl (X,e)) else some (Sum.inl (X,[])):Option ((List Fl×List UInt8)⊕R)).bind (bX K))=K (X,q.getD i []):=fun X R K=>by
    rw[List.getD_eq_getElem?_getD]
    cases h:q[i]? with
    |none=>
     rw[T4] at h
     rw[TW oM];rfl
    |some e=>rw[bg (bM h)];rfl
   simp only[bg hi,SZ,ap,hp,SQ,j,px,g,bQ i oM]
   rw[Nq p (hd.parts p h5) _ g1 _ _ (by rw[SW];omega),SQ,S4]
  ·simp only[ao,S2];rfl
  ·simp only[bX]
   rw[B _ (by rw[SW];omega),S4]
theorem O6 (x:ay) (hx:QD x) (q:bK) (hq:q.fRepeats.length<=20/\∀ r∈q.fRepeats,r.length<=20/\∀ t∈r,t.length<=1000/\t.all (qR 32 126)=true) (e:Int) (l:List Fl) (hl:l.length<=800000):cN ⟨l⟩ x q e=some ((),⟨l++(dK (fun k r=>jD x r e ((k+1:Nat):Int)) 0 (q.fRepeats.take x.fMost.toNat)++if x.fMost<(q.fRepeats.length:Int) then[qS 6 e (x.fMost+1) 0] else[])⟩):=by
 unfold cN vQ;dsimp only
 have u0:=hx.most
 have hs:dP q.fRepeats ((none:Option Int).getD 0) ((some (if(q.fRepeats.length:Int)<x.fMost then(q.fRepeats.length:Int) else x.fMost)).getD (q.fRepeats.length:Int))=some (q.fRepeats.take x.fMost.toNat):=by
  show dP q.fRepeats 0 (if(q.fRepeats.length:Int)<x.fMost then(q.fRepeats.length:Int) else x.fMost)=_
  have:(if(q.fRepeats.length:Int)<x.fMost then(q.fRepeats.length:Int) else x.fMost)=((min x.fMost.toNat q.fRepeats.length:Nat):Int):=by split<;>omega
  rw[this]
  unfold dP
  rw[Ub oM]
  simp only[Int.toNat_zero,Vb,T_,Nat.sub_zero]
  congr 1
  rw[List.take_eq_take_min]
  simp
 rw[hs,SQ]
 have E:(q.fRepeats.take x.fMost.toNat).length<=20:=by rw[Tc];omega
 have h1:=ew (b:=82) (f:=fun k r=>jD x r e ((k+1:Nat):Int)) (q.fRepeats.take x.fMost.toNat) 0 (fun i l _=>pA x hx.many _ _ _)
 rw[show(l,(0:Int))=(l++dK (fun k r=>jD x r e ((k+1:Nat):Int)) 0 [],((0:Nat):Int)) by simp[dK]]
 refine b6 (ls (q.fRepeats.take x.fMost.toNat) (fun i pre=>(l++dK (fun k r=>jD x r e ((k+1:Nat):Int)) 0 pre,(i:Int))) (a:=(Sum.inl (l++dK (fun k r=>jD x r e ((k+1:Nat):Int)) 0 (q.fRepeats.take x.fMost.toNat),((q.fRepeats.take x.fMost.toNat).length:Int)):(List Fl×Int)⊕(Unit×aU))) (fun k r hr=> ?_) ?_) ?_
 ·have hk:=bM hr
  have g:=va hr
  have D:=Tm (ST hr)
  have h8:=ew (b:=82) (f:=fun k r=>jD x r e ((k+1:Nat):Int)) ((q.fRepeats.take x.fMost.toNat).take k) 0 (fun i q _=>pA x hx.many _ _ _)
  simp only[bg hk,SZ,ap,hr,SQ,bQ k oM,px,g]
  rw[O5 x hx r (hq.2 r D) e _ _ (by rw[SW];omega),SQ,S4]
 ·simp only[ao,S2];rfl
 ·simp only[bX]
  have c:IntKind.i64.wrap (x.fMost+1)=x.fMost+1:=bp _ oM oM
  rw[F2 (by rw[SW];omega),c,S4]
  simp only[SU]
variable {A S:Type} {d:Df} {s:af} {a:A} {f:S->Option (S⊕A)}
theorem yA {s F:S} {r:Option A} (h:f s=some (.inl F)) (hr:bJ f F=r):bJ f s=r:=by rw[bV,h];exact hr
theorem C0 {s:S} (h:f s=some (.inr a)):bJ f s=some a:=by rw[bV,h]
theorem Gc {R:Type} {m:Option A} {k:A->Option R} {r:Option R} (h:m=some a) (hk:k a=r):m.bind k=r:=by rw[h];exact hk
def QF (b:Fl):Prop:=(0<=b.fAt.fElement/\b.fAt.fElement<=1000)/\(0<=b.fAt.fRepeat/\b.fAt.fRepeat<=1000)/\(0<=b.fAt.fPart/\b.fAt.fPart<=1000)/\(0<=b.fKind/\b.fKind<=1000)
theorem Sp:Kq QF dE FX:=by
 rintro a b ⟨M,a2,a3,a4⟩ ⟨b1,b2,m,c⟩
 unfold dE cW;dsimp only
 have w1:IntKind.i64.wrap (a.fAt.fElement - b.fAt.fElement)=a.fAt.fElement - b.fAt.fElement:=bp _ oM oM
 have g:IntKind.i64.wrap (a.fAt.fRepeat - b.fAt.fRepeat)=a.fAt.fRepeat - b.fAt.fRepeat:=bp _ oM oM
 have p:IntKind.i64.wrap (a.fAt.fPart - b.fAt.fPart)=a.fAt.fPart - b.fAt.fPart:=bp _ oM oM
 have w4:IntKind.i64.wrap (a.fKind - b.fKind)=a.fKind - b.fKind:=bp _ oM oM
 rw[w1,g,p,w4]
 by_cases h1:a.fAt.fElement - b.fAt.fElement=0
 ·by_cases h2:a.fAt.fRepeat - b.fAt.fRepeat=0
  ·by_cases E:a.fAt.fPart - b.fAt.fPart=0
   ·by_cases h4:a.fKind - b.fKind=0
    ·refine⟨0,b6 (a:=(Sum.inl 4:Int⊕Int)) (yA (F:=1) ?_ (yA (F:=2) ?_ (yA (F:=3) ?_ (yA (F:=4) ?_ (C0 rfl))))) rfl, ?_⟩
     ·show(bif !decide (a.fAt.fElement - b.fAt.fElement=0) then _ else _)=_
      rw[TG h1];rfl
     ·show(bif !decide (a.fAt.fRepeat - b.fAt.fRepeat=0) then _ else _)=_
      rw[TG h2];rfl
     ·show(bif !decide (a.fAt.fPart - b.fAt.fPart=0) then _ else _)=_
      rw[TG E];rfl
     ·show(bif !decide (a.fKind - b.fKind=0) then _ else _)=_
      rw[TG h4];rfl
     ·unfold FX
      have:¬ (a.fAt.fElement<b.fAt.fElement\/(a.fAt.fElement=b.fAt.fElement/\(a.fAt.fRepeat<b.fAt.fRepeat\/(a.fAt.fRepeat=b.fAt.fRepeat/\(a.fAt.fPart<b.fAt.fPart\/(a.fAt.fPart=b.fAt.fPart/\a.fKind<b.fKind)))))):=by omega
      rw[TW this];rfl
    ·refine⟨a.fKind - b.fKind,b6 (a:=(Sum.inr (a.fKind - b.fKind):Int⊕Int)) (yA (F:=1) ?_ (yA (F:=2) ?_ (yA (F:=3) ?_ (C0 ?_)))) rfl, ?_⟩
     ·show(bif !decide (a.fAt.fElement - b.fAt.fElement=0) then _ else _)=_
      rw[TG h1];rfl
     ·show(bif !decide (a.fAt.fRepeat - b.fAt.fRepeat=0) then _ else _)=_
      rw[TG h2];rfl
     ·show(bif !decide (a.fAt.fPart - b.fAt.fPart=0) then _ else _)=_
      rw[TG E];rfl
     ·show(bif !decide (a.fKind - b.fKind=0) then _ else _)=_
      rw[TW h4];rfl
     ·unfold FX;congr 1;apply propext;omega
   ·refine⟨a.fAt.fPart - b.fAt.fPart,b6 (a:=(Sum.inr (a.fAt.fPart - b.fAt.fPart):Int⊕Int)) (yA (F:=1) ?_ (yA (F:=2) ?_ (C0 ?_))) rfl, ?_⟩
    ·show(bif !decide (a.fAt.fElement - b.fAt.fElement=0) then _ else _)=_
     rw[TG h1];rfl
    ·show(bif !decide (a.fAt.fRepeat - b.fAt.fRepeat=0) then _ else _)=_
     rw[TG h2];rfl
    ·show(bif !decide (a.fAt.fPart - b.fAt.fPart=0) then _ else _)=_
     rw[TW E];rfl
    ·unfold FX;congr 1;apply propext;omega
  ·refine⟨a.fAt.fRepeat - b.fAt.fRepeat,b6 (a:=(Sum.inr (a.fAt.fRepeat - b.fAt.fRepeat):Int⊕Int)) (yA (F:=1) ?_ (C0 ?_)) rfl, ?_⟩
   ·show(bif !decide (a.fAt.fElement - b.fAt.fElement=0) then _ else _)=_
    rw[TG h1];rfl
   ·show(bif !decide (a.fAt.fRepeat - b.fAt.fRepeat=0) then _ else _)=_
    rw[TW h2];rfl
   ·unfold FX;congr 1;apply propext;omega
 ·refine⟨a.fAt.fElement - b.fAt.fElement,b6 (a:=(Sum.inr (a.fAt.fElement - b.fAt.fElement):Int⊕Int)) (C0 ?_) rfl, ?_⟩
  ·show(bif !decide (a.fAt.fElement - b.fAt.fElement=0) then _ else _)=_
   rw[TW h1];rfl
  ·unfold FX;congr 1;apply propext;omega
theorem QH (hd:O0 d):∀ x∈oz d s,QF x:=fun x hx=>by
 have Z:=hd.many
 obtain⟨N,H,q3,q4,q5,q,a⟩:=Nk (fun e J=>(hd.elems e J).most.1) hx
 rcases a with⟨r1,r2⟩|⟨e,J,r1,r2⟩
 ·exact⟨⟨by omega,by omega⟩,⟨by omega,by omega⟩,⟨by omega,by omega⟩,by omega,by omega⟩
 ·have h1:=(hd.elems e J).most
  have h2:=(hd.elems e J).many
  exact⟨⟨by omega,by omega⟩,⟨by omega,by omega⟩,⟨by omega,by omega⟩,by omega,by omega⟩
theorem O7 (hd:O0 d) {f:FuncId} {c:List DV} (h:∀ a0 M r,dE a0 M=some r->aa Tryz.prog f ([.agg (ab a0),.agg (ab M)]++c) (.int .i64 r)):aE (oz d s) f c dE h=some ((),oz d s):=by
 have hl:=Lr d hd s
 obtain⟨W,g1,g2,g3⟩:=E7 h RE Sp (oz d s) (QH hd) oM
 rw[g1,OZ (Nl s (fun e J=>(hd.elems e J).most.1)) g2 g3]
theorem O8 (d:Df) (hd:O0 d) (s:af) (hs:Sb s):sW d s=some (oz d s):=by
 unfold sW vR;dsimp only
 have Z:=hd.many
 have n:∀ (l:List (List (List UInt8))) (j c1 h1),l.length<=20->(∀ q∈l,q.length<=20)->bW l j c1 lO h1=some (!l.all wJ):=fun l j c1 h1 hl hq=>by
  rw[RG l oM j c1 _ h1 (fun q=> !wJ q) (fun q m=>by
   unfold lO vO;dsimp only
   rw[Kd q (by have:=hq q m;omega)];rfl)]
  rw[List.all_eq_not_any_not,Bool.not_not]
 have p:∀ (x:ay),QD x->∀ (q:bK),(q.fRepeats.length<=20/\∀ r∈q.fRepeats,r.length<=20/\∀ t∈r,t.length<=1000/\t.all (qR 32 126)=true)->∀ (e:Int) (l:List Fl) (j c1 h1) (i:Nat),i<=50->e=((i+1:Nat):Int)->l.length<=700000->
   ((bW q.fRepeats j c1 lO h1).bind fun y=>bif !y then bif x.fNeeded then(bu {fflaws:=l} 8 e 0 0).bind fun y=>some (Sum.inl (y.snd.fflaws,e)) else some (Sum.inl (l,e)) else(cN {fflaws:=l} x q e).bind fun y=>some (Sum.inl (y.snd.fflaws,e)):Option ((List Fl×Int)⊕((List Fl×Int)⊕List Fl)))=some (Sum.inl (l++gX x q.fRepeats e,e)):=by
  intro x hx q hq e l j c1 h1 i hi J hl
  rw[n _ _ _ _ hq.1 (fun r hr=>(hq.2 r hr).1),SQ]
  unfold gX
  cases hb:q.fRepeats.all wJ with
  |true=>
   rw[Ub rfl]
   simp only[S7,Tw,SZ]
   by_cases hn:x.fNeeded=true
   ·rw[hn,SZ,Ub rfl,F1 oM];rfl
   ·rw[Ul hn,TM.2 hn];simp
  |false=>
   rw[Ul oS]
   simp only[S7,Tw,S2]
   rw[O6 x hx q hq e l oM];rfl
 refine b6 (ls d.fElements (fun i pre=>(dK (fun i x=>gX x (fR s i) ((i+1:Nat):Int)) 0 pre,(i:Int))) (a:=(Sum.inl (dK (fun i x=>gX x (fR s i) ((i+1:Nat):Int)) 0 d.fElements,(d.fElements.length:Int)):(List Fl×Int)⊕List Fl)) (fun i x hx=> ?_) ?_) ?_
 ·have hi:=bM hx
  have v:=ST hx
  have M:=hd.elems x v
  have g:=va hx
  obtain⟨g1,g2⟩:=F0 hs i
  have h8:=ew (b:=1641) (f:=fun i x=>gX x (fR s i) ((i+1:Nat):Int)) (d.fElements.take i) 0 (fun i x hx=>tb x (hd.elems x (Ig hx)) _ _)
  rw[g] at h8
  simp only[bg hi,SZ,ap,hx,SQ,px,g,bQ i oM]
  cases hq:s.fElements[i]? with
  |none=>
   have hr:fR s i=[]:=by unfold fR;rw[hq]
   rw[T4] at hq
   rw[TW oM,S2,hr]
   exact p x M ⟨[]⟩ ⟨by simp,fun r hr=>by cases hr⟩ _ _ _ _ _ i oM rfl oM
  |some q=>
   have hr:fR s i=q.fRepeats:=by unfold fR;rw[hq]
   rw[bg (bM hq),SZ,SQ,hr]
   rw[hr] at g1 g2
   exact p x M q ⟨g1,g2⟩ _ _ _ _ _ i oM rfl oM
 ·simp only[ao,S2];rfl
 ·simp only[bX]
  have h8:=ew (b:=1641) (f:=fun i x=>gX x (fR s i) ((i+1:Nat):Int)) d.fElements 0 (fun i x hx=>tb x (hd.elems x hx) _ _)
  have k:∀ (f:FuncId) (c:List DV) h,aE (oz d s) f c dE h=some ((),oz d s):=fun f c h=>O7 hd (s:=s) (f:=f) (c:=c) h
  unfold oz at k⊢
  rw[G5,bQ _ oM]
  by_cases hc:d.fElements.length<s.fElements.length
  ·rw[Ub hc] at k⊢
   rw[TG hc,SZ,F1 oM,SQ]
   dsimp only
   rw[k];rfl
  ·rw[Ul hc] at k⊢
   rw[Tg] at k⊢
   rw[TW hc,S2,k];rfl
variable {b:Br} {s:aj} {t:List UInt8}
theorem NX {d:Nat} {l:List Br} (hb:b∈l) (hn:b.fName≠[]):fb d b.fKids<=fb (d+1) l:=by
 unfold fb
 induction l with
 |nil=>cases hb
 |cons c l ih=>
  simp only[S5,UH]
  rcases S9.1 hb with rfl|hb
  ·rw[Ul hn]
   cases d with
   |zero=>simp[fb]
   |succ d=>show fb (d+1) b.fKids<=_;omega
  ·have:=ih hb
   cases d with
   |zero=>simp[fb]
   |succ d=>show fb (d+1) b.fKids<=_;have h2:fb (d+1) b.fKids<=_:=this;omega
def Pv (s:aj) (t:List UInt8):Df:=(s.fDefs.find? fun d=>decide (d.fTag=t)).getD ⟨[],[]⟩
theorem JB (hr:AA s.fDefs) {d:Df} (hd:d∈s.fDefs) (Y:d.fTag=t):Pv s t=d:=by
 unfold Pv
 cases hf:s.fDefs.find? fun d=>decide (d.fTag=t) with
 |none=>exact absurd (List.find?_eq_none.1 hf d hd) (by simpa using Y)
 |some e=>
  have h1:=List.mem_of_find?_eq_some hf
  have h2:=List.find?_some hf
  simp only[SU] at h2
  show e=d
  exact NA hr h1 hd (h2.trans Y.symm)
structure RZ (s:aj):Prop where
 rise:AA s.fDefs
 len:s.fDefs.length<=1000
 df:∀ d∈s.fDefs,O0 d
theorem NY (h:LT s=0):RZ s/\Io (aK s.fDefs) 8 s.fItems/\RC 8 s.fItems:=by
 have hu:=RD h
 unfold LT at h
 split at h
 ·cases h
 split at h
 ·rename_i z;exact absurd h z
 rename_i z
 have z:=Classical.not_not.1 z
 split at h
 ·rename_i u;exact absurd h u
 rename_i u
 have u:=Classical.not_not.1 u
 obtain⟨k1, -⟩:=yf _ 8 s.fItems 0 0 u
 have hl:=Ep z
 refine⟨⟨F5 z,by omega,fun d hd=> ?_⟩,k1,hu⟩
 have hc:=z
 unfold vc at hc
 rw[Ul oM] at hc
 obtain⟨q,hq⟩:=AB hc d hd
 unfold Em at hq
 split at hq
 ·cases hq
 split at hq
 ·cases hq
 exact QE hq
theorem R1 (h:RZ s) (Y:aK s.fDefs t=true):kY s t=some (Pv s t,true)/\O0 (Pv s t):=by
 obtain⟨d,h1,h2⟩:=Ir s t h.rise h.len
 obtain⟨k1,k2⟩:=h2 Y
 rw[JB h.rise k1 k2]
 exact⟨by rw[h1,Y],h.df d k1⟩
theorem R2 (h:RZ s) (Y:aK s.fDefs t=true):∃ n,c_ s t=some n/\decide (n<0)=false/\cm s.fDefs n=some (Pv s t)/\O0 (Pv s t):=by
 obtain⟨n,h1,h2,E⟩:=Ik s t h.len
 obtain⟨d,k1,k2,k3⟩:=E Y
 exact⟨n,h1,by rw[h2,Y];rfl,by rw[JB h.rise k2 k3];exact k1,by rw[JB h.rise k2 k3];exact h.df d k2⟩
def lz (x:Sl) (b:Br):Bool:=if x.fName=[] then decide (b.fName=[])&&decide (b.fSegment.fTag=x.fTag) else decide (b.fName=x.fName)
def Ix (s:aj) (f:List Sl->List Br->Bool) (x:Sl) (b:Br):Bool:=if x.fName=[] then decide (oz (Pv s x.fTag) b.fSegment=[]) else f x.fItems b.fKids
def Iy (s:aj) (f:List Sl->List Br->Bool):List Sl->List Br->Bool
 |[],l=>decide (l=[])
 |x::t,l=>(l.takeWhile (lz x)).all (Ix s f x)&&decide (x.fMin<=((l.takeWhile (lz x)).length:Int)/\((l.takeWhile (lz x)).length:Int)<=x.fMax)&&Iy s f t (l.drop (l.takeWhile (lz x)).length)
def we (s:aj):Nat->List Sl->List Br->Bool
 |0,_,_=>false
 |k+1,items,l=>Iy s (we s k) items l
def E_ (s:aj) (f:List Sl->List Br->Bool):List Sl->List Br->Bool
 |[],l=>decide (l=[])
 |x::t,l=>((l.takeWhile (lz x)).take x.fMax.toNat).all (Ix s f x)&&decide (x.fMin<=(((l.takeWhile (lz x)).take x.fMax.toNat).length:Int))&&E_ s f t (l.drop ((l.takeWhile (lz x)).take x.fMax.toNat).length)
theorem EA {s:aj} {f:List Sl->List Br->Bool} {b:Br} {l:List Br}:∀ {t:List Sl},(∀ y∈t,lz y b=false)->E_ s f t (b::l)=false
 |[],_=>rfl
 |y::t,h=>by
  have hy:=h y (Tl ..)
  simp only[E_,U8,hy,Tj,Tv,List.take_nil,TN,Vb]
  rw[EA fun z hz=>h z (Tz _ hz),UL]
theorem LL {D:List UInt8->Bool} {x y:Sl} (hx:Pe D x) (hy:Pe D y) (h1:lz x b=true) (h2:lz y b=true):Nb x y:=by
 unfold lz at h1 h2
 by_cases a:x.fName=[]
 ·rw[Ub a] at h1
  simp only[SR,SU] at h1
  by_cases c:y.fName=[]
  ·rw[Ub c] at h2
   simp only[SR,SU] at h2
   exact⟨h2.2.symm.trans h1.2,by rw[a,c]⟩
  ·rw[Ul c] at h2
   simp only[SU] at h2
   exact absurd (h2.symm.trans h1.1) c
 ·rw[Ul a] at h1
  simp only[SU] at h1
  by_cases c:y.fName=[]
  ·rw[Ub c] at h2
   simp only[SR,SU] at h2
   exact absurd (h1.symm.trans h2.1) a
  ·rw[Ul c] at h2
   simp only[SU] at h2
   have g1:=hx.ok.grp a
   have g2:=hy.ok.grp c
   simp only[qO,SR,SU] at g1 g2
   exact⟨by rw[g1.1.2,g2.1.2],by rw[<-h1,<-h2]⟩
theorem KA {p:Br->Bool}:∀ {l:List Br} {k:Nat},k<(l.takeWhile p).length->∃ b r,l.drop k=b::r/\p b=true
 |[],_,h=>by simp at h
 |b::l,k,h=>by
  rw[U8] at h
  split at h
  ·rename_i hp
   cases k with
   |zero=>exact⟨b,l,rfl,hp⟩
   |succ k=>
    simp only[S6] at h
    obtain⟨c,r,h1,h2⟩:=KA (k:=k) (by omega:k<(l.takeWhile p).length)
    exact⟨c,r,by simpa using h1,h2⟩
  ·simp at h
theorem KB {s:aj} {D:List UInt8->Bool} {f:List Sl->List Br->Bool}:∀ (t:List Sl) (l:List Br),(∀ x∈t,Pe D x)->t.Pairwise (fun a b=>¬ Nb a b)->E_ s f t l=Iy s f t l
 |[],_,_,_=>rfl
 |x::t,l,h,hp=>by
  obtain⟨d,C⟩:=Ud.1 hp
  have hx:=h x (Tl ..)
  have n:=hx.max
  simp only[E_,Iy]
  by_cases r9:((l.takeWhile (lz x)).length:Int)<=x.fMax
  ·rw[Tr oM,KB t _ (fun y hy=>h y (Tz _ hy)) C]
   simp[r9]
  ·have h8:((l.takeWhile (lz x)).take x.fMax.toNat).length=x.fMax.toNat:=by rw[Tc];omega
   obtain⟨b,r,v1,s0⟩:=KA (p:=lz x) (l:=l) (k:=x.fMax.toNat) oM
   rw[h8,v1,EA (fun y hy=>by
    cases hv:lz y b with
    |false=>rfl
    |true=>exact absurd (LL hx (h y (Tz _ hy)) s0 hv) (d y hy)),UL]
   have:decide (x.fMin<=((l.takeWhile (lz x)).length:Int)/\((l.takeWhile (lz x)).length:Int)<=x.fMax)=false:=TW fun hc=>r9 hc.2
   rw[this,UL,TY]
variable {b:Br} {d:Nat}
theorem Iz {R:Type} (l:List Br) (p ok:Br->Bool) (X:R) {F:Int×Int->Option ((Int×Int)⊕((Int×Int)⊕R))} (hb:∀ (i:Nat) (b:Br) (m:Nat),l[i]?=some b->m<=i->F ((i:Int),(m:Int))=if p b=true then(if ok b=true then some (.inl (((i+1:Nat):Int),((m+1:Nat):Int))) else some (.inr (.inr X))) else some (.inr (.inl ((i:Int),(m:Int))))) (J:∀ m:Nat,F ((l.length:Int),(m:Int))=some (.inr (.inl ((l.length:Int),(m:Int))))):∀ (t:List Br) (i m:Nat),l.drop i=t->i<=l.length->m<=i->
  bJ F ((i:Int),(m:Int))=if(t.takeWhile p).all ok=true then some (.inl (((i+(t.takeWhile p).length:Nat):Int),((m+(t.takeWhile p).length:Nat):Int))) else some (.inr X)
 |[],i,m,hd,hi,_=>by
  have:=rQ hd hi
  subst this
  rw[bV,J];simp
 |b::t,i,m,hd,hi,Z=>by
  obtain⟨h1,h2,E⟩:=yv hd
  rw[bV,hb i b m h1 Z,U8]
  by_cases hp:p b=true
  ·rw[Ub hp,Ub hp,Uy]
   by_cases hk:ok b=true
   ·rw[Ub hk,hk,S8]
    simp only[]
    rw[Iz l p ok X hb J t (i+1) (m+1) E h2 oM]
    simp only[S6]
    rw[show i+1+(t.takeWhile p).length=i+((t.takeWhile p).length+1) by omega,show m+1+(t.takeWhile p).length=m+((t.takeWhile p).length+1) by omega]
   ·rw[Ul hk,TM.2 hk];simp
  ·rw[Ul hp,Ul hp];simp
theorem IA {R:Type} (p ok:Br->Bool) (M:Nat) (X:R) {F:List Br×Int->Option ((List Br×Int)⊕((List Br×Int)⊕R))} (P:Br->Prop) (hb:∀ (b:Br) (l:List Br) (m:Nat),P b->m<=M->l.length<=1000000->F (b::l,(m:Int))=if p b=true/\m<M then(if ok b=true then some (.inl (l,((m+1:Nat):Int))) else some (.inr (.inr X))) else some (.inr (.inl (b::l,(m:Int))))) (J:∀ m:Nat,F ([],(m:Int))=some (.inr (.inl ([],(m:Int))))):∀ (l:List Br) (m:Nat),(∀ b∈l,P b)->m<=M->l.length<=1000000->
  bJ F (l,(m:Int))=if((l.takeWhile p).take (M - m)).all ok=true then some (.inl (l.drop ((l.takeWhile p).take (M - m)).length,((m+((l.takeWhile p).take (M - m)).length:Nat):Int))) else some (.inr X)
 |[],m,_,_,_=>by rw[bV,J];simp
 |b::l,m,j,Z,hl=>by
  rw[bV,hb b l m (j b (Tl ..)) Z (by simp only[S6] at hl;omega),U8]
  by_cases hp:p b=true/\m<M
  ·obtain⟨n,hn⟩:∃ n,M - m=n+1:=⟨M - m - 1,by omega⟩
   rw[Ub hp,Ub hp.1,hn,Uz,Uy]
   by_cases hk:ok b=true
   ·rw[Ub hk,hk,S8]
    simp only[]
    rw[IA p ok M X P hb J l (m+1) (fun c hc=>j c (Tz _ hc)) oM (by simp only[S6] at hl;omega),show M - (m+1)=n by omega]
    simp only[S6,U1]
    rw[show m+1+((l.takeWhile p).take n).length=m+(((l.takeWhile p).take n).length+1) by omega]
   ·rw[Ul hk,TM.2 hk];simp
  ·rw[Ul hp]
   by_cases u6:p b=true
   ·rw[Ub u6,show M - m=0 by have:¬ m<M:=fun h=>hp ⟨u6,h⟩;omega];simp
   ·rw[Ul u6];simp
theorem NZ (x:Sl) (b:Br):iD x b=some (lz x b):=by
 unfold iD vF;dsimp only
 unfold lz
 by_cases hn:x.fName=[]
 ·rw[TG hn,Ub hn];simp only[aY,SQ];rfl
 ·rw[TW hn,Ul hn];rfl
def R3 (d:Nat) (b:Br):Prop:=JA b\/(b.fName≠[]/\AG b.fSegment=true/\pJ b.fKids=false/\LK d b.fKids)
theorem N0 (h:R3 d b) (hn:b.fName=[]):Sb b.fSegment:=by
 rcases h with h|h
 ·exact PT h.2.1
 ·exact absurd hn h.1
theorem EB (h:R3 d b) (hn:b.fName≠[]):LK d b.fKids/\b.fSegment.fTag=[]:=by
 rcases h with h|h
 ·exact absurd h.1 hn
 ·have hb:=h.2.1
  simp only[AG,SR,SU] at hb
  exact⟨h.2.2.2,hb.1⟩
theorem yy {x:Sl} (h:lz x b=true):b.fName=x.fName\/(x.fName=[]/\b.fName=[]):=by
 unfold lz at h
 split at h
 ·rename_i hn
  simp only[SR,SU] at h
  exact .inr ⟨hn,h.1⟩
 ·simp only[SU] at h
  exact .inl h
theorem SH (l:List Fl):decide (0<(l.length:Int))= !decide (l=[]):=Nu l
theorem N1 {s:aj} (gs:RZ s):∀ (k d fu:Nat) (items:List Sl) (l:List Br),Io (aK s.fDefs) k items->LK d l->fb d l<=100000->k<=fu->ge fu s items l=some (we s k items l)
 |0,_,_,_,_,h,_,_,_=>h.elim
 |k+1,_,0,_,_,_,_,_,h=>by omega
 |k+1,d,fu+1,items,l,z,f,hB,hf=>by
  have h8:=wc d f
  have y:=z.len
  rw[rO];unfold vI;dsimp only;simp only[rN]
  have g:∀ b∈l,R3 (d - 1) b:=fun b hb=>by
   cases d with
   |zero=>rw[show l=[] from f] at hb;cases hb
   |succ d=>exact f b hb
  have q:∀ b∈l,b.fName≠[]->fb (d - 1) b.fKids<=100000:=fun b hb hn=>by
   cases d with
   |zero=>rw[show l=[] from f] at hb;cases hb
   |succ d=>have:=NX (d:=d) hb hn;simp only[Un];omega
  refine mI (X:=Nat×Nat) (fun x=>((x.2:Int),(x.1:Int))) (fun x=>items.length - x.1) (fun x=>x.1<=items.length/\x.2<=l.length/\Iy s (we s k) (items.drop x.1) (l.drop x.2)=Iy s (we s k) items l) ?_ (0,0) ⟨To _,To _,rfl⟩
  rintro⟨i,j⟩ ⟨h1,h2,E⟩
  dsimp only at h1 h2 E⊢
  rcases Th i items.length with hi|hi
  ·obtain⟨x,hx⟩:=dY hi
   obtain⟨s5,s8⟩:=z.it (ST hx)
   rw[nI hx] at E
   simp only[Iy] at E
   simp only[bg hi,SZ,ap,hx,SQ,fj,ra,NZ]
   rw[show(((j:Nat):Int),(0:Int))=(((j:Nat):Int),((0:Nat):Int)) from rfl]
   rw[Iz l (lz x) (Ix s (we s k) x) (.inr (.inr false)) (fun i b m hb Z=>by
    have hi:=bM hb
    have e:=ST hb
    simp only[bg hi,hY,ap,hb,SQ,bQ i oM,bQ m oM]
    by_cases hp:lz x b=true
    ·rw[hp,SZ,Ub rfl]
     unfold Ix
     by_cases hn:x.fName=[]
     ·have c:b.fName=[]:=by rcases yy hp with h|h;rw[h,hn];exact h.2
      rw[TG hn,Ub hn]
      obtain⟨n,N,H,q3,q4⟩:=R2 gs (s5.tag hn)
      simp only[S7,S2,N,SQ,H,q3,DY,O4 _ q4 _ (N0 (g b e) c),SH]
      by_cases hq:oz (Pv s x.fTag) b.fSegment=[]
      ·rw[TG hq];rfl
      ·rw[TW hq];rfl
     ·have c:b.fName≠[]:=by rcases yy hp with h|h;rw[h];exact hn;exact absurd h.1 hn
      rw[TW hn,Ul hn]
      simp only[Tw,SZ]
      rw[N1 gs k (d - 1) fu x.fItems b.fKids (s8 hn) (EB (g b e) c).1 (q b e c) oM,SQ]
      cases we s k x.fItems b.fKids<;>rfl
    ·rw[TM.2 hp];rfl) (fun m=>by
    simp only[ao,hY,SQ,S2];rfl) (l.drop j) j 0 rfl h2 (To _)]
   by_cases R:((l.drop j).takeWhile (lz x)).all (Ix s (we s k) x)=true
   ·rw[Ub R,SQ]
    simp only[bX,hx,SQ,vd]
    rw[R,S8] at E
    by_cases hc:x.fMin<=(((l.drop j).takeWhile (lz x)).length:Int)/\(((l.drop j).takeWhile (lz x)).length:Int)<=x.fMax
    ·rw[TG hc,S8,Ua] at E
     have a:((l.drop j).takeWhile (lz x)).length<=(l.drop j).length:=(List.takeWhile_prefix _).length_le
     rw[TH] at a
     refine .inl ⟨(i+1,j+((l.drop j).takeWhile (lz x)).length),⟨hi,by dsimp only;omega,E⟩,by dsimp only;omega, ?_⟩
     rw[TJ,TG hc.1,TG hc.2,bQ i oM]
     first|done|rfl
    ·rw[TW hc,TY] at E
     refine .inr ⟨.inr false, ?_,by rw[we,<-E];try rfl⟩
     have:(decide (x.fMin<=((0+((l.drop j).takeWhile (lz x)).length:Nat):Int))&&decide (((0+((l.drop j).takeWhile (lz x)).length:Nat):Int)<=x.fMax))=false:=by
      rw[TJ,TU]
      simp only[Ts]
      omega
     rw[this];rfl
   ·rw[Ul R,SQ]
    rw[TM.2 R,TY,TY] at E
    exact .inr ⟨.inr false,rfl,by rw[we,<-E];try rfl⟩
  ·have hl:i=items.length:=by omega
   subst hl
   rw[Uo] at E
   refine .inr ⟨_,by simp only[ao,S2];rfl, ?_⟩
   simp only[bX]
   rw[we,<-E]
   simp only[Iy]
   congr 1
   rw[Ti,SU,SU,UW]
   omega
theorem PX {α:Type} (b:α) (l:List α):dP (b::l) ((some (1:Int)).getD 0) ((none:Option Int).getD (((b::l).length:Nat):Int))=some l:=by
 simp only[T8,TI,dP]
 rw[Ub (by simp only[S6];omega)]
 simp
theorem asks (x:Sl) {D:List UInt8->Bool} {d:Nat} {b:Br} (hx:Pe D x) (hb:R3 d b):(decide (b.fName=x.fName)&&decide (b.fSegment.fTag=x.fTag))=lz x b:=by
 unfold lz
 by_cases hn:x.fName=[]
 ·rw[Ub hn,hn]
 ·rw[Ul hn]
  by_cases h:b.fName=x.fName
  ·have g:=hx.ok.grp hn
   simp only[qO,SR,SU] at g
   rw[TG h,(EB hb (by rw[h];exact hn)).2,g.1.2];rfl
  ·rw[TW h];rfl
theorem N2 {s:aj} (gs:RZ s):∀ (k d fu:Nat) (items:List Sl) (l:List Br),Io (aK s.fDefs) k items->RC k items->LK d l->fb d l<=100000->k<=fu->pG fu s items l=some (we s k items l)
 |0,_,_,_,_,h,_,_,_,_=>h.elim
 |k+1,_,0,_,_,_,_,_,_,h=>by omega
 |k+1,d,fu+1,items,l,z,hU,f,hB,hf=>by
  have h8:=wc d f
  have y:=z.len
  rw[zy];unfold vG;dsimp only;simp only[zx]
  have g:∀ b∈l,R3 (d - 1) b:=fun b hb=>by
   cases d with
   |zero=>rw[show l=[] from f] at hb;cases hb
   |succ d=>exact f b hb
  have q:∀ b∈l,b.fName≠[]->fb (d - 1) b.fKids<=100000:=fun b hb hn=>by
   cases d with
   |zero=>rw[show l=[] from f] at hb;cases hb
   |succ d=>have:=NX (d:=d) hb hn;simp only[Un];omega
  rw[show we s (k+1) items l=E_ s (we s k) items l by rw[KB items l (fun x hx=>(z.it hx).1) hU.1];rfl]
  refine mI (X:=Nat×Nat) (fun x=>(l.drop x.2,(x.1:Int))) (fun x=>items.length - x.1) (fun x=>x.1<=items.length/\x.2<=l.length/\E_ s (we s k) (items.drop x.1) (l.drop x.2)=E_ s (we s k) items l) ?_ (0,0) ⟨To _,To _,rfl⟩
  rintro⟨i,j⟩ ⟨h1,h2,E⟩
  dsimp only at h1 h2 E⊢
  rcases Th i items.length with hi|hi
  ·obtain⟨x,hx⟩:=dY hi
   obtain⟨s5,s8⟩:=z.it (ST hx)
   have n:=s5.max
   rw[nI hx] at E
   simp only[E_] at E
   simp only[bg hi,SZ,ap,hx,SQ]
   rw[show(l.drop j,(0:Int))=(l.drop j,((0:Nat):Int)) from rfl]
   rw[IA (lz x) (Ix s (we s k) x) x.fMax.toNat (.inr (.inr false)) (fun b=>b∈l) (fun b r m e Z hl=>by
    have v1:=g b e
    have K:cm (b::r) 0=some b:=rfl
    have e1:decide (0<(((b::r).length:Nat):Int))=true:=TG (by simp only[S6];omega)
    have e2:decide ((m:Int)<x.fMax)=decide (m<x.fMax.toNat):=by rw[Ti,SU,SU];omega
    dsimp only
    simp only[K,e1,e2,hY,SZ,SQ,bQ m oM,ra]
    by_cases hc:m<x.fMax.toNat
    ·rw[TG hc]
     simp only[SZ,SQ]
     have a:=asks x s5 v1
     by_cases hp:lz x b=true
     ·rw[hp,SR] at a
      rw[Ub ⟨hp,hc⟩,a.1,a.2]
      simp only[SZ,SQ]
      unfold Ix
      by_cases hn:x.fName=[]
      ·have c:b.fName=[]:=by rcases yy hp with h|h;rw[h,hn];exact h.2
       obtain⟨N,q4⟩:=R1 gs (s5.tag hn)
       rw[TG hn,Ub hn]
       simp only[S7,S2,SZ,SQ,N,O8 _ q4 _ (N0 v1 c),SH,PX]
       by_cases hq:oz (Pv s x.fTag) b.fSegment=[]
       ·rw[TG hq];rfl
       ·rw[TW hq];rfl
      ·have c:b.fName≠[]:=by rcases yy hp with h|h;rw[h];exact hn;exact absurd h.1 hn
       rw[TW hn,Ul hn]
       simp only[Tw,SZ,S2,PX]
       rw[N2 gs k (d - 1) fu x.fItems b.fKids (s8 hn) (hU.2 x (ST hx) hn) (EB v1 c).1 (q b e c) oM,SQ]
       cases we s k x.fItems b.fKids<;>rfl
     ·rw[Ul fun h=>hp h.1]
      rw[TM.2 hp] at a
      cases hv:decide (b.fName=x.fName) with
      |false=>rfl
      |true=>
       rw[hv,S8] at a
       simp only[SZ,SQ]
       rw[a];rfl
    ·rw[Ul fun h=>hc h.2,TW hc];rfl) (fun m=>rfl) (l.drop j) 0 (fun b hb=>TE hb) (To _) (by rw[TH];omega)]
   rw[Nat.sub_zero]
   generalize o:((l.drop j).takeWhile (lz x)).take x.fMax.toNat=T at E⊢
   have p:T.length<=(l.drop j).length:=by rw[<-o];exact TT (List.take_prefix ..).length_le (List.takeWhile_prefix _).length_le
   rw[TH] at p
   by_cases R:T.all (Ix s (we s k) x)=true
   ·rw[Ub R,SQ]
    rw[R,S8] at E
    simp only[bX,TJ]
    by_cases hc:x.fMin<=(T.length:Int)
    ·rw[TG hc,S8,Ua] at E
     refine .inl ⟨(i+1,j+T.length),⟨hi,by dsimp only;omega,E⟩,by dsimp only;omega, ?_⟩
     rw[TW (show¬ (T.length:Int)<x.fMin by omega),bQ i oM,Ua];rfl
    ·rw[TW hc,TY] at E
     refine .inr ⟨.inr false, ?_,by rw[<-E];try rfl⟩
     rw[TG (show(T.length:Int)<x.fMin by omega)];rfl
   ·rw[Ul R,SQ]
    rw[TM.2 R,TY,TY] at E
    exact .inr ⟨.inr false,rfl,by rw[<-E];try rfl⟩
  ·have hl:i=items.length:=by omega
   subst hl
   rw[Uo] at E
   refine .inr ⟨_,by simp only[ao,S2];rfl, ?_⟩
   simp only[bX]
   rw[<-E]
   simp only[E_]
   rw[Ij]
def Sd (s:aj) (l:List Br):Bool×Int:=if LT s≠0 then(false,LT s) else if(rV 8 l 0 0).1≠0 then(false,(rV 8 l 0 0).1) else(we s 8 s.fItems l,0)
theorem Q4 (s:aj) (hs:Rf s) (l:List Br) (hl:∀ b∈l,EH b) (h8:l.length<=MX):uo s l=some (Sd s l):=by
 have d:=vw
 unfold uo vH;dsimp only
 unfold Sd
 rw[E1 s hs,CS l hl h8,SQ,SQ]
 by_cases h1:LT s=0
 ·rw[Ul (not_not_intro h1),TG h1]
  by_cases h2:(rV 8 l 0 0).1=0
  ·obtain⟨g1,g2,g3⟩:=NY h1
   obtain⟨i,t2⟩:=AJ h2
   rw[Ul (not_not_intro h2),TG h2,N2 g1 8 7 FU s.fItems l g2 g3 i oM oM];rfl
  ·rw[Ub h2,TW h2];rfl
 ·rw[Ub h1,TW h1];rfl
theorem Q5 (s:aj) (hs:Rf s) (l:List Br) (hl:∀ b∈l,EH b) (h8:l.length<=MX):jP s l=some (Sd s l):=by
 have d:=vw
 unfold jP vJ;dsimp only
 unfold Sd
 rw[E0 s hs,G_ l hl h8,SQ,SQ]
 by_cases h1:LT s=0
 ·rw[Ul (not_not_intro h1),TG h1]
  by_cases h2:(rV 8 l 0 0).1=0
  ·obtain⟨g1,g2,g3⟩:=NY h1
   obtain⟨i,t2⟩:=AJ h2
   rw[Ul (not_not_intro h2),TG h2,N1 g1 8 7 FU s.fItems l g2 i oM oM];rfl
  ·rw[Ub h2,TW h2];rfl
 ·rw[Ub h1,TW h1];rfl
theorem Oc:ua [66,71,77]=some true:=by rw[J9 _ oD];rfl
theorem LZ:jN [{fName:=[],fSegment:={fTag:=[66,71,77],fElements:=[]},fKids:=[]}]=some 0:=by
 rw[CS _ (fun b hb=>by rw[Td.1 hb];exact .mk oD oD oD (fun a ha=>by cases ha)) oD];rfl
theorem L0:jf [66,71,77] 47=some (-1):=by
 unfold jf lI;dsimp only
 unfold fr lH;dsimp only
 refine Gc (a:= -1) (b6 (a:= .inl (-1)) (yA (F:=1) rfl (yA (F:=0) rfl (yA (F:= -1) rfl (C0 rfl)))) rfl) rfl
theorem Od:sP [66,71,77]=some ({fNames:=[],fTag:=[66,71,77],fElement:=0,fPart:=0},true):=by
 have hs:mH [66,71,77] [46]=some [[66,71,77]]:=by
  unfold mH
  rw[Ub oD]
  decide
 unfold sP vB;dsimp only
 rw[show UInt8.ofNat (Int.toNat 47)=47 from rfl,L0,SQ,hs]
 simp only[show decide ((0:Int)<= -1)=false from rfl,S2,SQ,show cm [[(66:UInt8),71,77]] 0=some [66,71,77] from rfl,Oc]
 refine b6 (a:= .inl ()) (C0 rfl) rfl
theorem KI:ob [{fName:=[],fSegment:={fTag:=[66,71,77],fElements:=[]},fKids:=[]}] {fNames:=[],fTag:=[66,71,77],fElement:=0,fPart:=0}=some [[66,71,77]]:=by
 unfold ob lI;dsimp only
 unfold wu lH;dsimp only
 refine Gc (b6 (a:= .inl ()) (C0 rfl) rfl) ?_
 refine b6 (a:= .inl ([[66,71,77]],1)) (yA (F:=([[66,71,77]],1)) (b6 (a:= .inl ([[66,71,77]],1)) (yA (F:=([[66,71,77]],1)) rfl (C0 rfl)) rfl) (C0 rfl)) rfl
theorem KJ:jg=some true:=by
 unfold jg vE;dsimp only
 unfold yW vD;dsimp only
 unfold sQ vC;dsimp only
 rw[LZ,Od]
 show(((ob _ {fNames:=[],fTag:=[66,71,77],fElement:=0,fPart:=0}).bind _).bind _)=_
 rw[KI];rfl
theorem LM (s:aj) (l:List Br) (hs:Rf s) (hl:∀ b∈l,EH b) (h8:l.length<=MX):cu s l=some true:=by
 obtain⟨h1,h2⟩:=Q3 l
 unfold cu vK;dsimp only
 rw[Q1 l hl h8,Q2 l hl h8,Q4 s hs l hl h8,Q5 s hs l hl h8,CS l hl h8,G_ l hl h8,KJ]
 simp only[SQ,E9 _ (show(PW l).1.length<=137438953472 by omega) fun x hx=>Iw (h2 x hx)]
 simp only[Ue,aY,SQ,Bool.and_self,hY,SZ]
theorem Q6:∀ {b:ai},lv b->Hi b:=by
 intro b h
 induction h with
 |mk Y hn _ _ hl hk ih=>exact .mk Y hn hl ih
theorem Q7 {s:aj} (h:pI s):Rf s:=⟨h.1,h.2.1,fun d hd=>(h.2.2.1.2 d hd).1,fun x hx=>Q6 (h.2.2.2.2 x hx)⟩
theorem Q8:∀ {b:ad},gx b->EH b:=by
 intro b h
 induction h with
 |mk hn hs hl hk ih=>exact .mk hn hs.1 hl ih
theorem JC (s:aj) (l:List ad) (hs:pI s) (hl:EZ gx l):cu s l=some true:=
 LM s l (Q7 hs) (fun b hb=>Q8 (hl.2 b hb)) hl.1
end Go.Proofs.YteaolfcegaidpaaGreatDoor
