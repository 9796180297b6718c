/-
  Texts of mine, one behind the other (SYQ5, SYQ6, SYQ7, SYQ8, SYQ17, SYCU1, SYCU2, SYPN, SYCU3, SYCC, SYCU4, SYCU5, SYCU6, SYCU7, SYJ10, SYJ11, SYCB1, SYRD1).
-/
import Derived.Test.YtgmnipfafmphaaaGreatDoorBY4
import Derived.Test.YtgmnipfafmphaaaGreatDoorBY5
import Derived.Test.YtgmnipfafmphaaaGreatDoorBY6
import Derived.Lib.IndexAny
namespace Go.Proofs.YtgmnipfafmphaaaGreatDoor
open Go.RowKit
set_option linter.unusedSimpArgs false
set_option linter.unusedVariables false
def nr {α:Type} (h:Nat->α->Int):Nat->List α->Int
 |_,[]=>0
 |i,e::l=>if h i e=0 then nr h (i+1) l else h i e
theorem Ge {α R:Type} (l:List α) (h:Nat->α->Int) (ret:Int->R) (k:Int->Option R) {f:Int->Option (Int⊕(Int⊕R))} (hb:∀ (i:Nat) (e:α),l[i]?=some e->f (i:Int)=if h i e=0 then some (.inl ((i+1:Nat):Int)) else some (.inr (.inr (ret (h i e))))) (he:f (l.length:Int)=some (.inr (.inl (l.length:Int)))):(bc f 0).bind (c3 k)=if nr h 0 l=0 then k (l.length:Int) else some (ret (nr h 0 l)):=by
 have:∀ (t:List α) (i:Nat),l.drop i=t->i<=l.length->bc f (i:Int)=if nr h i t=0 then some (.inl (l.length:Int)) else some (.inr (ret (nr h i t))):=by
  intro t
  induction t with
  |nil=>
   intro i hd hi
   have:=gU hd hi
   subst this
   rw[b3,he]
   rfl
  |cons e t ih=>
   intro i hd hi
   obtain⟨h1,h2,E⟩:=gH hd
   rw[b3,hb i e h1]
   by_cases h0:h i e=0
   ·simp only[nr,h0,TB];exact ih (i+1) E h2
   ·simp only[nr,h0,Tq]
 have e0:bc f 0=if nr h 0 l=0 then some (.inl (l.length:Int)) else some (.inr (ret (nr h 0 l))):=this l 0 rfl (TK _)
 rw[e0]
 by_cases h0:nr h 0 l=0
 ·rw[U4 h0,U4 h0];rfl
 ·rw[if_neg h0,if_neg h0];rfl
def My {α:Type} (c:Nat->α->Bool):Nat->List α->Bool
 |_,[]=>false
 |i,e::l=>c i e||My c (i+1) l
theorem BL {α:Type} (c:Nat->α->Bool) (n:Int) (hn:n≠0):∀ (l:List α) (i:Nat),nr (fun i e=>if c i e=true then n else 0) i l=if My c i l=true then n else 0
 |[],_=>rfl
 |e::l,i=>by
  simp only[nr,My,BL c n hn l (i+1)]
  by_cases hc:c i e=true<;>simp[hc,hn]
def vI (a b:UInt8):Bool:=decide ((a.toNat:Int)=(b.toNat:Int))
def Hz (m:ab):Bool:= !eG m.fElement|| !eG m.fPart|| !eG m.fRepeat|| !eG m.fEnd||(!decide ((m.fEscape.toNat:Int)=0)&& !eG m.fEscape)
def Dt (m:ab):Bool:=vI m.fPart m.fElement||vI m.fRepeat m.fElement||vI m.fRepeat m.fPart||vI m.fEnd m.fElement||vI m.fEnd m.fPart||vI m.fEnd m.fRepeat||vI m.fEscape m.fElement||vI m.fEscape m.fPart||vI m.fEscape m.fRepeat||vI m.fEscape m.fEnd
def eq (m:ab):Int:=if Hz m=true then 3 else if Dt m=true then 7 else 0
theorem Gf (l:List UInt8) (b:UInt8) (hl:l.length<9223372036854775807):fW l b=some (l.any (vI b)):=by
 unfold fW eL;dsimp only
 have hI:gW l b=some (match l.findIdx? (vI b) with|some i=>(i:Int)|none=> -1):=by
  unfold gW f3;dsimp only
  have:∀ (t:List UInt8) (i:Nat) (f:Int->Option (Int⊕(Int⊕Int))),l.drop i=t->i<=l.length->(∀ (i:Nat) (e:UInt8),l[i]?=some e->f (i:Int)=bif vI b e then some (.inr (.inr (i:Int))) else some (.inl ((i+1:Nat):Int)))->f (l.length:Int)=some (.inr (.inl (l.length:Int)))->
    bc f (i:Int)=some (match t.findIdx? (vI b) with|some j=> .inr (((i+j:Nat)):Int)|none=> .inl (l.length:Int)):=by
   intro t
   induction t with
   |nil=>
    intro i f hd hi hb he
    have:=gU hd hi
    subst this
    rw[b3,he]
    rfl
   |cons e t ih=>
    intro i f hd hi hb he
    obtain⟨h1,h2,E⟩:=gH hd
    rw[b3,hb i e h1,List.findIdx?_cons]
    cases hq:vI b e with
    |true=>simp
    |false=>
     simp only[S7]
     rw[ih (i+1) f E h2 hb he]
     cases t.findIdx? (vI b) with
     |none=>rfl
     |some j=>simp;omega
  refine co (this l 0 _ rfl (TK _) (fun i e he=> ?_) ?_) ?_
  ·have hi:=cB he
   simp only[br hi,S4,aw,he,SQ,bB i oM]
   show(bif vI b e then _ else _)=_
   cases vI b e<;>rfl
  ·simp only[aB,S7];rfl
  ·cases l.findIdx? (vI b) with
   |none=>rfl
   |some j=>simp[c3]
 rw[hI]
 simp only[SQ]
 congr 1
 cases h:l.findIdx? (vI b) with
 |none=>
  rw[List.findIdx?_eq_none_iff] at h
  symm
  simp only[UE]
  simpa using h
 |some j=>
  have h2:=List.findIdx?_eq_some_iff_getElem.1 h
  obtain⟨hj,E, -⟩:=h2
  symm
  simp only[S5,Int.natCast_nonneg,TA]
  exact UM.2 ⟨l[j],List.getElem_mem hj,E⟩
theorem zD (m:ab):fF m=some (eq m):=by
 unfold fF kQ;dsimp only
 simp only[QA,SQ,bT,cx]
 unfold eq
 have hb:Hz m=(jB (fun b=>if eG b=true then(0:Int) else 3) [m.fElement,m.fPart,m.fRepeat,m.fEnd] !=0||(!decide ((m.fEscape.toNat:Int)=0)&& !eG m.fEscape)):=by
  unfold Hz
  simp only[jB]
  by_cases h1:eG m.fElement=true<;>by_cases h2:eG m.fPart=true<;>by_cases E:eG m.fRepeat=true<;>by_cases h4:eG m.fEnd=true<;>simp[h1,h2,E,h4]
 rw[hb]
 refine(oF [m.fElement,m.fPart,m.fRepeat,m.fEnd] (fun b=>if eG b=true then(0:Int) else 3) (fun _=>3) _ (fun i e he=> ?_) ?_).trans ?_
 ·have hi:i<4:=cB he
  have h4:decide ((i:Int)<4)=true:=UU oM
  simp only[h4,S4,aw,he,SQ,bB i oM]
  cases eG e<;>rfl
 ·rfl
 ·by_cases h0:jB (fun b=>if eG b=true then(0:Int) else 3) [m.fElement,m.fPart,m.fRepeat,m.fEnd]=0
  ·rw[U4 h0,h0]
   simp only[bne_self_eq_false,T7]
   by_cases h1:(!decide ((m.fEscape.toNat:Int)=0)&& !eG m.fEscape)=true
   ·rw[U4 h1];simp only[h1,S4]
   ·rw[if_neg h1]
    simp only[Uh] at h1
    simp only[h1,S7]
    rw[BJ (IB oS)]
    refine(Ge [m.fElement,m.fPart,m.fRepeat,m.fEnd,m.fEscape] (fun i e=>if([m.fElement,m.fPart,m.fRepeat,m.fEnd].take i).any (vI e)=true then 7 else 0) (fun a=>a) _ (fun i e he=> ?_) ?_).trans ?_
    ·have hi:i<5:=cB he
     have h5:decide ((i:Int)<5)=true:=UU oM
     have hs:cz [m.fElement,m.fPart,m.fRepeat,m.fEnd] 0 (if 4<(i:Int) then 4 else(i:Int))=some ([m.fElement,m.fPart,m.fRepeat,m.fEnd].take i):=by
      have:¬ (4<(i:Int)):=by omega
      rw[if_neg this]
      unfold cz
      rw[U4 ⟨by omega,by omega,by simp;omega⟩]
      simp
     have hn:[m.fElement,m.fPart,m.fRepeat,m.fEnd,m.fEscape][(i:Int).toNat]?=some e:=by simpa using he
     simp only[h5,S4,aw,he,hn,SQ,bB i oM]
     have j:cz [m.fElement,m.fPart,m.fRepeat,m.fEnd] ((none:Option Int).getD 0) ((some (if 4<(i:Int) then 4 else(i:Int))).getD ((4:Nat):Int))=some ([m.fElement,m.fPart,m.fRepeat,m.fEnd].take i):=hs
     rw[j]
     simp only[SQ]
     rw[Gf _ e (by rw[Th];simp;omega)]
     simp only[SQ]
     cases([m.fElement,m.fPart,m.fRepeat,m.fEnd].take i).any (vI e)<;>rfl
    ·rfl
    ·rw[BL (fun i e=>([m.fElement,m.fPart,m.fRepeat,m.fEnd].take i).any (vI e)) 7 oD]
     have:My (fun i e=>([m.fElement,m.fPart,m.fRepeat,m.fEnd].take i).any (vI e)) 0 [m.fElement,m.fPart,m.fRepeat,m.fEnd,m.fEscape]=Dt m:=by
      rw[TV]
      simp only[My,List.take,List.any_cons,List.any_nil,Dt,vI,TE,S5,Bool.or_false,T7,Tb]
      omega
     rw[this]
     cases Dt m<;>rfl
  ·rw[if_neg h0]
   have:(jB (fun b=>if eG b=true then(0:Int) else 3) [m.fElement,m.fPart,m.fRepeat,m.fEnd] !=0)=true:=by simpa using h0
   rw[this]
   rfl
variable {t:List UInt8}
def pi (l:List aa) (m:ab):Int:=if et l=0 then eq m else et l
theorem QD (l:List aa) (m:ab) (hs:nZ l):mM l m=some (pi l m):=by
 unfold mM gN;dsimp only
 simp only[EH l hs,zD,SQ,pi]
 by_cases h:et l=0<;>simp[h]
def ud (m:ab) (b:UInt8):Bool:=decide ((b.toNat:Int)=(m.fElement.toNat:Int))||decide ((b.toNat:Int)=(m.fPart.toNat:Int))||decide ((b.toNat:Int)=(m.fRepeat.toNat:Int))||decide ((b.toNat:Int)=(m.fEnd.toNat:Int))||(!decide ((m.fEscape.toNat:Int)=0)&&decide ((b.toNat:Int)=(m.fEscape.toNat:Int)))
theorem IE (m:ab) (b:UInt8):pk m b=some (ud m b):=by
 unfold pk si;dsimp only
 simp only[bT,cx,SQ,ud]
def iH (m:ab) (t:List UInt8):Nat:=t.countP (ud m)
def EI (m:ab) (l:List (List UInt8)):Nat:=(l.map (iH m)).sum
def Gg (m:ab) (x:aj):Nat:=(x.fRepeats.map (EI m)).sum
def yb (m:ab) (s:aa):Nat:=(s.fElements.map (Gg m)).sum
def qO (m:ab) (l:List aa):Nat:=(l.map (yb m)).sum
theorem Gh {α:Type} {c:α->Nat} {l:List α} {i:Nat} {e:α} (h:l[i]?=some e):((l.take i++[e]).map c).sum=((l.take i).map c).sum+c e:=by simp
theorem BM (h:kd t=0):t.length<=1000:=by
 unfold kd at h
 split at h
 ·cases h
 ·omega
theorem zE {l:List (List UInt8)} (h:ya l=0):l.length<=20/\0<l.length/\∀ t∈l,kd t=0:=by
 unfold ya at h
 split at h
 ·cases h
 ·split at h
  ·cases h
  ·exact⟨by omega,by omega,fc h⟩
theorem wW {x:aj} (h:mr x=0):x.fRepeats.length<=20/\0<x.fRepeats.length/\∀ t∈x.fRepeats,ya t=0:=by
 unfold mr at h
 split at h
 ·cases h
 ·split at h
  ·cases h
  ·exact⟨by omega,by omega,fc h⟩
theorem EJ (h:nq t=true):t.length<=6/\2<=t.length:=by
 cases t with
 |nil=>cases h
 |cons b t=>
  simp only[nq,SR,S5] at h
  simp only[ST]
  omega
theorem wX {s:aa} (h:ut s=0):nq s.fTag=true/\s.fTag.length<=6/\2<=s.fTag.length/\s.fElements.length<=50/\∀ e∈s.fElements,mr e=0:=by
 unfold ut at h
 split at h
 ·cases h
 ·rename_i h1
  have h1:nq s.fTag=true:=by simpa using h1
  split at h
  ·cases h
  ·exact⟨h1,(EJ h1).1,(EJ h1).2,by omega,fc h⟩
theorem oG {l:List aa} (h:et l=0):l.length<=2000/\∀ s∈l,ut s=0:=by
 unfold et at h
 split at h
 ·cases h
 ·exact⟨by omega,fc h⟩
theorem OD (m:ab) (t:List UInt8):iH m t<=t.length:=List.countP_le_length
theorem Mz (m:ab) (t:List UInt8) (ht:t.length<4611686018427387904):pr m t=some ((iH m t:Nat):Int):=by
 unfold pr gN;dsimp only
 refine co (kb (a:= .inl (((iH m t:Nat):Int),((t.length:Nat):Int))) t (fun i pre=>(((iH m pre:Nat):Int),((i:Nat):Int))) (fun i e he=> ?_) ?_) ?_
 ·have hi:=cB he
  have hc:iH m (t.take i)<=i:=by have:=OD m (t.take i);rw[qN he] at this;exact this
  have hs:iH m (t.take i++[e])=iH m (t.take i)+(if ud m e=true then 1 else 0):=by simp[iH,List.countP_append,List.countP_singleton]
  simp only[br hi,S4,aw,he,SQ,IE,bB i oM,bB (iH m (t.take i)) oM,hs]
  cases ud m e<;>rfl
 ·simp only[aB,S7];rfl
 ·rfl
structure EK where
 sp:ju
 mark:UInt8
 t:List UInt8
variable {e:Nat} {l:List (List (List UInt8))} {m:ab} {r:Nat}
def qP (m:ab) (t:List UInt8):List UInt8:=t.flatMap fun b=>if ud m b=true/\m.fEscape.toNat≠0 then[m.fEscape,b] else[b]
theorem Du (m:ab) (t:List UInt8) (b:UInt8):iH m (t++[b])=iH m t+(if ud m b=true then 1 else 0):=by simp[iH,List.countP_append,List.countP_singleton]
abbrev RT:=List UInt8×List iw×Nat
def uP (m:ab) (seg:Int) (w:RT) (p:EK):RT:=(w.1++p.mark::qP m p.t,w.2.1++[⟨seg,p.sp,((w.1.length:Nat):Int),((w.1.length+1:Nat):Int),((w.1.length+1+(qP m p.t).length:Nat):Int)⟩],w.2.2+iH m p.t)
def wY (m:ab) (r p:Nat):UInt8:=if 0<p then m.fPart else if 0<r then m.fRepeat else m.fElement
def HA (e r p:Nat):ju:=⟨((e+1:Nat):Int),((r+1:Nat):Int),((p+1:Nat):Int)⟩
def tO (m:ab) (e r:Nat):Nat->List UInt8->List EK:=fun p t=>[⟨HA e r p,wY m r p,t⟩]
def uu (m:ab) (e:Nat):Nat->List (List UInt8)->List EK:=fun r l=>c7 (tO m e r) 0 l
def vG (m:ab):Nat->aj->List EK:=fun e x=>c7 (uu m e) 0 x.fRepeats
def rC (m:ab) (s:aa):List EK:=c7 (vG m) 0 s.fElements
def zF (l:List EK):Prop:=∀ p∈l,p.t.length<=1000
theorem Rx {l:List (List UInt8)} (h:∀ t∈l,kd t=0):zF (c7 (tO m e r) 0 l):=nX fun i t ht y hy=>by
 simp only[tO,Tj] at hy;subst hy;exact BM (h t ht)
theorem Ry (h:∀ t∈l,ya t=0):zF (c7 (uu m e) 0 l):=nX fun i t ht y hy=>Rx (zE (h t ht)).2.2 y hy
theorem Rz {l:List aj} (h:∀ t∈l,mr t=0):zF (c7 (vG m) 0 l):=nX fun i t ht y hy=>Ry (wW (h t ht)).2.2 y hy
theorem RB {l:List (List UInt8)}:(c7 (tO m e r) 0 l).length<=l.length:=by
 have:=uc (f:=tO m e r) (b:=1) l 0 (fun i t ht=>by simp[tO])
 omega
theorem RC (h:∀ t∈l,ya t=0):(c7 (uu m e) 0 l).length<=l.length * 20:=uc l 0 fun i t ht=>TW RB (zE (h t ht)).1
theorem QE {l:List aj} (h:∀ t∈l,mr t=0):(c7 (vG m) 0 l).length<=l.length * 400:=uc l 0 fun i t ht=>by
 have h1:=wW (h t ht)
 have h2:=RC (m:=m) (e:=i) h1.2.2
 unfold vG
 omega
def Gi (m:ab) (seg:Int) (w:RT) (l:List EK):RT:=l.foldl (uP m seg) w
def uQ (w:RT) (i:Nat) (s:aa):RT:=(w.1++s.fTag,w.2.1++[⟨((i:Nat):Int),⟨0,0,0⟩,((w.1.length:Nat):Int),((w.1.length:Nat):Int),((w.1.length+s.fTag.length:Nat):Int)⟩],w.2.2)
def BN (m:ab) (c:Bool):List UInt8:=bif c then[m.fEnd,10] else[m.fEnd]
def Gj (m:ab) (c:Bool) (i:Nat) (w:RT) (s:aa):RT:=((Gi m (i:Int) (uQ w i s) (rC m s)).1++BN m c,(Gi m (i:Int) (uQ w i s) (rC m s)).2)
def BO (m:ab) (c:Bool):Nat->RT->List aa->RT
 |_,w,[]=>w
 |i,w,s::l=>BO m c (i+1) (Gj m c i w s) l
theorem ue {α β:Type} {f:Nat->α->List β} {g:β->Nat} {c:α->Nat} (h:∀ i e,((f i e).map g).sum=c e):∀ (l:List α) (i:Nat),((c7 f i l).map g).sum=(l.map c).sum
 |[],_=>rfl
 |x::l,i=>by simp only[c7,TY,List.sum_append,h,ue h l,Tc,UY]
theorem Gk (m:ab) (s:aa):((rC m s).map fun p=>iH m p.t).sum=yb m s:=by
 unfold rC yb
 refine ue (fun e x=> ?_) _ _
 unfold vG Gg
 refine ue (fun r l=> ?_) _ _
 unfold uu EI
 refine ue (fun p t=> ?_) _ _
 simp[tO]
variable {b:List UInt8} {m:ab}
def IC:ab:=⟨0,0,0,0,0⟩
def kc:List UInt8->List UInt8->Nat->Option Int
 |[],_,_=>none
 |_::_,[],i=>some (i:Int)
 |c::cs,b::bs,i=>if b=c then kc cs bs (i+1) else some (i:Int)
def mq (b:List UInt8):ab×Int×Int:=
 match kc [77,82,75] b 0 with
 |some i=>(IC,i,10)
 |none=>match b with
  |[_,_,_,a,p,r,e,z]=>mk a p r e z
  |_::_::_::a::p::r::e::z::_=>mk a p r e z
  |b=>(IC,(b.length:Int),10)
where mk (a p r e z:UInt8):ab×Int×Int:=
 if e=0 then(IC,3,3) else if eq ⟨a,p,r,if e=32 then 0 else e,z⟩=0 then(⟨a,p,r,if e=32 then 0 else e,z⟩,0,0) else(IC,3,eq ⟨a,p,r,if e=32 then 0 else e,z⟩)
theorem EG (a c:UInt8):decide ((a.toNat:Int)=(c.toNat:Int))=decide (a=c):=by
 congr 1
 apply propext
 exact⟨fun h=>Up.1 oM,fun h=>by rw[h]⟩
theorem Rv (a p r e z:UInt8) (f:ab->Option Int) (C:∀ m,f m=some (eq m)):
  (bif decide ((e.toNat:Int)=32) then(f ⟨a,p,r,UInt8.ofNat (Int.toNat 0),z⟩).bind fun x=>bif !decide (x=0) then some ((⟨UInt8.ofNat (Int.toNat 0),UInt8.ofNat (Int.toNat 0),UInt8.ofNat (Int.toNat 0),UInt8.ofNat (Int.toNat 0),UInt8.ofNat (Int.toNat 0)⟩:ab),(3:Int),x) else some (⟨a,p,r,UInt8.ofNat (Int.toNat 0),z⟩,0,0)
   else(f ⟨a,p,r,e,z⟩).bind fun x=>bif !decide (x=0) then some ((⟨UInt8.ofNat (Int.toNat 0),UInt8.ofNat (Int.toNat 0),UInt8.ofNat (Int.toNat 0),UInt8.ofNat (Int.toNat 0),UInt8.ofNat (Int.toNat 0)⟩:ab),(3:Int),x) else some (⟨a,p,r,e,z⟩,0,0))=
  some (if eq ⟨a,p,r,if e=32 then 0 else e,z⟩=0 then(⟨a,p,r,if e=32 then 0 else e,z⟩,0,0) else(IC,3,eq ⟨a,p,r,if e=32 then 0 else e,z⟩)):=by
 have z0:UInt8.ofNat (Int.toNat 0)=0:=rfl
 simp only[C,SQ,z0]
 have c:decide ((e.toNat:Int)=32)=decide (e=32):=EG e 32
 rw[c]
 by_cases h:e=32
 ·simp only[h,TA,S4,TB]
  by_cases Z:eq ⟨a,p,r,0,z⟩=0<;>simp[Z,IC]
 ·simp only[h,UO,S7,Tq]
  by_cases Z:eq ⟨a,p,r,e,z⟩=0<;>simp[Z,IC]
theorem OA (e:UInt8):decide ((e.toNat:Int)=0)=decide (e=0):=EG e 0
theorem J2 {f:ab×Int->Option (ab×Int⊕(ab×Int⊕(ab×Int×Int)))} (b:List UInt8) (m:ab) (hb:∀ (i:Nat),i<3->f (m,(i:Int))=(match b[i]? with|none=>some (.inr (.inr (IC,(i:Int),10)))|some x=>if some x=([77,82,75]:List UInt8)[i]? then some (.inl (m,((i+1:Nat):Int))) else some (.inr (.inr (IC,(i:Int),10))))) (he:f (m,3)=some (.inr (.inl (m,3)))):bc f (m,0)=some (match kc [77,82,75] b 0 with|some i=> .inr (IC,i,10)|none=> .inl (m,3)):=by
 have h0:=hb 0 oM
 have h1:=hb 1 oM
 have h2:=hb 2 oM
 have e0:f (m,0)=f (m,((0:Nat):Int)):=rfl
 rw[b3,e0,h0]
 cases b with
 |nil=>simp[kc]
 |cons x b=>
  simp only[Tz,SN,kc]
  by_cases hx:x=77
  ·simp only[hx,TB]
   rw[b3,h1]
   cases b with
   |nil=>simp[kc]
   |cons y b=>
    simp only[TO,Tz,SN,kc]
    by_cases hy:y=82
    ·simp only[hy,TB]
     rw[b3,h2]
     cases b with
     |nil=>simp[kc]
     |cons z b=>
      simp only[TO,Tz,SN,kc]
      by_cases hz:z=75
      ·simp only[hz,TB]
       have e3:f (m,((2+1:Nat):Int))=some (.inr (.inl (m,3))):=he
       rw[b3,e3]
      ·simp only[hz,Tq];try rfl
    ·simp only[hy,Tq];try rfl
  ·simp only[hx,Tq];try rfl
theorem vF {a0 M a2 a p r e z:UInt8} {t:List UInt8} (hb:b=a0::M::a2::a::p::r::e::z::t) (h:kc [77,82,75] b 0=none):mq b=mq.mk a p r e z:=by
 unfold mq
 rw[h]
 subst hb
 cases t<;>rfl
theorem yO (hb:b.length<8) (h:kc [77,82,75] b 0=none):mq b=(IC,(b.length:Int),10):=by
 unfold mq
 rw[h]
 match b,hb with
 |[],_=>rfl
 |[_],_=>rfl
 |[_,_],_=>rfl
 |[_,_,_],_=>rfl
 |[_,_,_,_],_=>rfl
 |[_,_,_,_,_],_=>rfl
 |[_,_,_,_,_,_],_=>rfl
 |[_,_,_,_,_,_,_],_=>rfl
 |_::_::_::_::_::_::_::_::t,hb=>simp at hb;omega
theorem ID (hb:¬ b.length<8):∃ a0 M a2 a p r e z t,b=a0::M::a2::a::p::r::e::z::t:=by
 match b,hb with
 |[],hb=>simp at hb
 |[_],hb=>simp at hb
 |[_,_],hb=>simp at hb
 |[_,_,_],hb=>simp at hb
 |[_,_,_,_],hb=>simp at hb
 |[_,_,_,_,_],hb=>simp at hb
 |[_,_,_,_,_,_],hb=>simp at hb
 |[_,_,_,_,_,_,_],hb=>simp at hb
 |a0::M::a2::a::p::r::e::z::t,_=>exact⟨a0,M,a2,a,p,r,e,z,t,rfl⟩
theorem tM (b:List UInt8) (hl:b.length<=9223372036854775807):ko b=some (mq b):=by
 unfold ko ss;dsimp only
 refine co (J2 b ⟨UInt8.ofNat (Int.toNat 0),UInt8.ofNat (Int.toNat 0),UInt8.ofNat (Int.toNat 0),UInt8.ofNat (Int.toNat 0),UInt8.ofNat (Int.toNat 0)⟩ (fun i hi=> ?_) ?_) ?_
 ·have q:decide ((i:Int)<3)=true:=UU oM
  obtain⟨c,hc⟩:=eF (l:=([77,82,75]:List UInt8)) (i:=i) hi
  cases m:b[i]? with
  |none=>
   have I:b.length<=i:=List.getElem?_eq_none_iff.1 m
   have d:decide ((b.length:Int)<=(i:Int))=true:=UU oM
   simp only[q,S4,d,LG,SQ]
   rfl
  |some x=>
   have I:=cB m
   have d:decide ((b.length:Int)<=(i:Int))=false:=TZ oM
   simp only[q,S4,d,LG,S7,aw,m,hc,SQ,EG,bB i oM,SN]
   by_cases hx:x=c
   ·simp only[hx,TA,S9,S7,TB]
   ·simp only[hx,UO,Tm,S4,Tq]
    rfl
 ·rfl
 ·cases hh:kc [77,82,75] b 0 with
  |some i=>
   simp only[c3]
   unfold mq
   rw[hh]
  |none=>
   simp only[c3]
   by_cases h8:b.length<8
   ·have d:decide ((b.length:Int)<8)=true:=UU oM
    rw[yO h8 hh]
    simp only[d,S4]
    rfl
   ·have d:decide ((b.length:Int)<8)=false:=TZ oM
    obtain⟨a0,M,a2,a,p,r,e,z,t,rfl⟩:=ID h8
    rw[vF rfl hh]
    have g3:b4 (a0::M::a2::a::p::r::e::z::t) 3=some a:=rfl
    have g4:b4 (a0::M::a2::a::p::r::e::z::t) 4=some p:=rfl
    have g5:b4 (a0::M::a2::a::p::r::e::z::t) 5=some r:=rfl
    have g6:b4 (a0::M::a2::a::p::r::e::z::t) 6=some e:=rfl
    have g7:b4 (a0::M::a2::a::p::r::e::z::t) 7=some z:=rfl
    simp only[d,S7,g3,g4,g5,g6,g7,SQ,OA]
    unfold mq.mk
    by_cases he:e=0
    ·simp only[he,TA,S4,TB]
     rfl
    ·simp only[he,UO,S7,Tq]
     exact Rv a p r e z fF zD
theorem Qz {b:UInt8} (h:eG b=true):b≠32/\b≠0:=by
 unfold eG at h
 constructor<;>(intro e;subst e;revert h;decide)
theorem J3 (h:eq m=0):m.fEscape=0\/(m.fEscape≠32/\m.fEscape≠0):=by
 unfold eq at h
 by_cases hb:Hz m=true
 ·rw[U4 hb] at h;cases h
 ·by_cases he:m.fEscape=0
  ·exact .inl he
  ·refine .inr (Qz ?_)
   unfold Hz at hb
   have hz:¬ ((m.fEscape.toNat:Int)=0):=fun e=>he (Up.1 oT)
   simp only[Uh,TS,hz,UO,Tm,T1,Bool.not_eq_false'] at hb
   exact hb.2
theorem J4 (h:eq m=0) (b:List UInt8):mq (ft m++b)=(m,0,0):=by
 have hh:kc [77,82,75] (ft m++b) 0=none:=rfl
 have e:ft m++b=77::82::75::m.fElement::m.fPart::m.fRepeat::(if m.fEscape=0 then 32 else m.fEscape)::m.fEnd::b:=rfl
 rw[vF e hh]
 unfold mq.mk
 obtain⟨a,p,r,e,z⟩:=m
 rcases J3 h with he|⟨d,c⟩
 ·simp only at he
  subst he
  simp only[TB]
  rw[if_neg oD,U4 h]
 ·simp only at d c
  simp only[if_neg c,if_neg d]
  rw[U4 h]
variable {m:ab} {q r:List UInt8}
def rW (m:ab) (x:UInt8):Bool:= !decide ((m.fEscape.toNat:Int)=0)&&decide ((x.toNat:Int)=(m.fEscape.toNat:Int))
def E_ (x:UInt8):Bool:=decide ((x.toNat:Int)<32)||decide ((126:Int)<(x.toNat:Int))
def cQ (m:ab):List UInt8->List UInt8⊕(List UInt8×List UInt8)
 |[]=> .inl []
 |x::r=>
  if rW m x=true then
   match r with
   |[]=> .inl []
   |y::r=>if ud m y=true then(match cQ m r with| .inl q=> .inl q| .inr (o,q)=> .inr (y::o,q)) else .inl (y::r)
  else if ud m x=true then .inr ([],x::r)
  else if E_ x=true then .inl (x::r)
  else match cQ m r with| .inl q=> .inl q| .inr (o,q)=> .inr (x::o,q)
theorem uY (m:ab):∀ (n:Nat) (r:List UInt8),r.length<=n->∀ q,cQ m r= .inl q->q.length<=r.length
 |n,[],_,q,h=>by rw[cQ] at h;cases h;exact SZ _
 |0,x::r,h,_,_=>by simp at h
 |n+1,x::r,hn,q,h=>by
  have D:r.length<=n:=by simpa using hn
  unfold cQ at h
  split at h
  ·cases r with
   |nil=>cases h;simp
   |cons y r=>
    simp only at h
    split at h
    ·cases Y:cQ m r with
     |inl p=>
      rw[Y] at h
      have:=uY m n r (by simp at D;omega) p Y
      cases h
      simp only[ST];omega
     |inr a=>rw[Y] at h;cases h
    ·cases h;simp
  ·split at h
   ·cases h
   ·split at h
    ·cases h;exact SZ _
    ·cases Y:cQ m r with
     |inl p=>
      rw[Y] at h
      have:=uY m n r D p Y
      cases h
      simp only[ST];omega
     |inr a=>rw[Y] at h;cases h
theorem uZ (m:ab):∀ (n:Nat) (r:List UInt8),r.length<=n->∀ o q,cQ m r= .inr (o,q)->q.length<=r.length/\o.length+q.length<=r.length/\∃ x t,q=x::t/\ud m x=true/\rW m x=false
 |n,[],_,_,q,h=>by rw[cQ] at h;cases h
 |0,x::r,h,_,_,_=>by simp at h
 |n+1,x::r,hn,o,q,h=>by
  have D:r.length<=n:=by simpa using hn
  unfold cQ at h
  split at h
  ·cases r with
   |nil=>cases h
   |cons y r=>
    simp only at h
    split at h
    ·cases Y:cQ m r with
     |inl p=>rw[Y] at h;cases h
     |inr a=>
      obtain⟨o',p⟩:=a
      rw[Y] at h
      obtain⟨h1,h2,E⟩:=uZ m n r (by simp at D;omega) o' p Y
      cases h
      simp only[ST]
      exact⟨by omega,by omega,E⟩
    ·cases h
  ·rename_i he
   split at h
   ·rename_i Z
    cases h
    simp only[ST,S3]
    exact⟨by omega,by omega,x,r,rfl,Z,by simpa using he⟩
   ·split at h
    ·cases h
    ·cases Y:cQ m r with
     |inl p=>rw[Y] at h;cases h
     |inr a=>
      obtain⟨o',p⟩:=a
      rw[Y] at h
      obtain⟨h1,h2,E⟩:=uZ m n r D o' p Y
      cases h
      simp only[ST]
      exact⟨by omega,by omega,E⟩
theorem I6 (h:cQ m r= .inl q):q.length<=r.length:=uY m r.length r (SZ _) q h
theorem mA {o:List UInt8} (h:cQ m r= .inr (o,q)):q.length<=r.length/\o.length+q.length<=r.length/\∃ x t,q=x::t/\ud m x=true/\rW m x=false:=uZ m r.length r (SZ _) o q h
variable {acc:List aj} {k:UInt8} {m:ab}
abbrev bt:=List UInt8
variable {q r:bt} {res:bt⊕(List (List bt)×bt)} {t:bt} {xs:List (List bt)}
def DJ (ys:List (List bt)) (t:bt):List (List bt):=ys.set (ys.length - 1) (ys[ys.length - 1]?.getD []++[t])
theorem gG (ys:List (List bt)) (p:List bt) (t:bt):DJ (ys++[p]) t=ys++[p++[t]]:=by
 unfold DJ
 simp only[SS,ST,S3,Tx,UP,Tr (SZ _),T9,Tz,TU,T3 _ _ (SZ _),U1]
theorem Fa (ys:List (List bt)) (t:bt):(DJ ys t).length=ys.length:=by unfold DJ;simp
def la (m:ab) (k:UInt8) (xs:List (List bt)) (t:bt):List (List bt):=if k=m.fRepeat then DJ (xs++[[]]) t else DJ xs t
theorem HW (h:k=m.fRepeat\/xs≠[]):la m k xs t≠[]:=by
 unfold la
 intro h0
 split at h0
 ·have:=TX List.length h0
  rw[Fa] at this;simp at this
 ·rename_i hk
  have:=TX List.length h0
  rw[Fa] at this
  rcases h with h|h
  ·exact hk h
  ·exact h (Ta.1 (by simpa using this))
inductive Fb (m:ab):UInt8->List (List bt)->bt->bt⊕(List (List bt)×bt)->Prop
 |bad {k xs r q:_}:cQ m r= .inl q->Fb m k xs r (.inl q)
 |fin {k xs r t y q:_}:cQ m r= .inr (t,y::q)->(y=m.fElement\/y=m.fEnd)->Fb m k xs r (.inr (la m k xs t,y::q))
 |more {k xs r t y q res:_}:cQ m r= .inr (t,y::q)->¬ (y=m.fElement\/y=m.fEnd)->Fb m y (la m k xs t) q res->Fb m k xs r res
theorem KS (m:ab):∀ (n:Nat) (r:bt),r.length<=n->∀ k xs,∃ res,Fb m k xs r res:=by
 intro n
 induction n with
 |zero=>
  intro r D k xs
  have:r=[]:=Ta.1 oM
  subst this
  exact⟨_,.bad (by rw[cQ])⟩
 |succ n ih=>
  intro r D k xs
  cases Y:cQ m r with
  |inl q=>exact⟨_,.bad Y⟩
  |inr a=>
   obtain⟨t,q⟩:=a
   obtain⟨h1,_,y,q',rfl,_⟩:=mA Y
   by_cases hy:y=m.fElement\/y=m.fEnd
   ·exact⟨_,.fin Y hy⟩
   ·obtain⟨res,o⟩:=ih q' (by simp only[ST] at h1;omega) y (la m k xs t)
    exact⟨res,.more Y hy o⟩
theorem GI (h:Fb m k xs r res):∀ h8 q',res= .inr (h8,q')->q'.length<=r.length/\∃ y q,q'=y::q/\(y=m.fElement\/y=m.fEnd):=by
 induction h with
 |bad=>intro _ _ h;cases h
 |fin Y hy=>
  intro h8 q' h
  cases h
  exact⟨(mA Y).1,_,_,rfl,hy⟩
 |more Y hy _ ih=>
  intro h8 q' h
  obtain⟨h1,h2⟩:=ih h8 q' h
  have:=(mA Y).1
  simp only[ST] at this
  exact⟨by omega,h2⟩
theorem PG (h:Fb m k xs r res):∀ q',res= .inl q'->q'.length<=r.length:=by
 induction h with
 |bad Y=>intro _ h;cases h;exact I6 Y
 |fin Y hy=>intro _ h;cases h
 |more Y hy _ ih=>
  intro q' h
  have h1:=ih q' h
  have:=(mA Y).1
  simp only[ST] at this
  omega
inductive vR (m:ab):List aj->bt->bt⊕(List aj×bt)->Prop
 |fin {acc y q:_}:y≠m.fElement->vR m acc (y::q) (.inr (acc,y::q))
 |bad {acc q p:_}:Fb m m.fRepeat [] q (.inl p)->vR m acc (m.fElement::q) (.inl p)
 |more {acc q xs q' res:_}:Fb m m.fRepeat [] q (.inr (xs,q'))->vR m (acc++[⟨xs⟩]) q' res->vR m acc (m.fElement::q) res
theorem I7 (m:ab):∀ (n:Nat) (r:bt),r.length<=n->(∃ y q,r=y::q)->∀ acc,∃ res,vR m acc r res:=by
 intro n
 induction n with
 |zero=>intro r D h;obtain⟨y,q,rfl⟩:=h;simp at D
 |succ n ih=>
  intro r D h acc
  obtain⟨y,q,rfl⟩:=h
  by_cases hy:y=m.fElement
  ·subst hy
   obtain⟨res,o⟩:=KS m q.length q (SZ _) m.fRepeat []
   cases res with
   |inl p=>exact⟨_,.bad o⟩
   |inr a=>
    obtain⟨xs,q'⟩:=a
    obtain⟨h1,y,W,h2,_⟩:=GI o xs q' rfl
    obtain⟨res,s9⟩:=ih q' (by simp only[ST] at D;omega) ⟨y,W,h2⟩ (acc++[⟨xs⟩])
    exact⟨res,.more o s9⟩
  ·exact⟨_,.fin hy⟩
theorem DK {res:bt⊕(List aj×bt)} (h:vR m acc r res):(∀ a q',res= .inr (a,q')->q'.length<=r.length/\∃ y q,q'=y::q/\y≠m.fElement)/\∀ q',res= .inl q'->q'.length<=r.length:=by
 induction h with
 |fin hy=>exact⟨fun _ _ h=>by cases h;exact⟨SZ _,_,_,rfl,hy⟩,fun _ h=>by cases h⟩
 |bad he=>exact⟨fun _ _ h=>(by cases h),fun q' h=>by cases h;have:=PG he _ rfl;simp only[ST];omega⟩
 |more he _ ih=>
  have h1:=(GI he _ _ rfl).1
  exact⟨fun a q' h=>by have:=ih.1 a q' h;simp only[ST];exact⟨by omega,this.2⟩,fun q' h=>by have:=ih.2 q' h;simp only[ST];omega⟩
def I8 (m:ab) (acc:List aj) (k:UInt8) (t:bt):List aj:=
 if k=m.fElement then acc++[⟨[[t]]⟩] else acc.set (acc.length - 1) ⟨if k=m.fRepeat then(acc[acc.length - 1]?.getD ⟨[]⟩).fRepeats++[[t]] else DJ (acc[acc.length - 1]?.getD ⟨[]⟩).fRepeats t⟩
theorem I9 (hk:k≠m.fElement):I8 m (acc++[⟨xs⟩]) k t=acc++[⟨la m k xs t⟩]:=by
 unfold I8 la
 rw[if_neg hk]
 simp only[SS,ST,S3,Tx,UP,Tr (SZ _),T9,Tz,TU,T3 _ _ (SZ _),U1,gG,S8]
inductive Nr (m:ab):List aj->bt->bt⊕(List aj×bt)->Prop
 |fin {acc q:_}:Nr m acc (m.fEnd::q) (.inr (acc,m.fEnd::q))
 |bad {acc y q p:_}:y≠m.fEnd->cQ m q= .inl p->Nr m acc (y::q) (.inl p)
 |more {acc y q t q' res:_}:y≠m.fEnd->cQ m q= .inr (t,q')->Nr m (I8 m acc y t) q' res->Nr m acc (y::q) res
theorem O4 (h:Fb m k xs r res):
  ∀ (A acc:List aj) (y:UInt8),y≠m.fEnd->(∀ t,I8 m A y t=acc++[⟨la m k xs t⟩])->
   (∀ p,res= .inl p->Nr m A (y::r) (.inl p))/\∀ h8 q',res= .inr (h8,q')->∀ a,Nr m (acc++[⟨h8⟩]) q' a->Nr m A (y::r) a:=by
 induction h with
 |bad Y=>exact fun A acc y hy hu=>⟨fun p h=>by cases h;exact .bad hy Y,fun _ _ h=>by cases h⟩
 |fin Y s2=>exact fun A acc y hy hu=>⟨fun p h=>(by cases h),fun h8 q' h a C=>by cases h;rw[<-hu] at C;exact .more hy Y C⟩
 |more Y s2 _ ih=>
  intro A acc y hy hu
  have:=ih (acc++[⟨_⟩]) acc _ (fun h=>s2 (.inr h)) (fun t=>I9 fun h=>s2 (.inl h))
  refine⟨fun p h=> ?_,fun h8 q' h a C=> ?_⟩
  ·have h1:=this.1 p h
   rw[<-hu] at h1
   exact .more hy Y h1
  ·have h1:=this.2 h8 q' h a C
   rw[<-hu] at h1
   exact .more hy Y h1
theorem PH (hE:m.fElement≠m.fEnd) {res:bt⊕(List aj×bt)} (h:vR m acc r res):(∀ y q,r=y::q->y=m.fElement\/y=m.fEnd)->Nr m acc r res:=by
 have hu:∀ (A:List aj) t,I8 m A m.fElement t=A++[⟨la m m.fRepeat [] t⟩]:=fun A t=>by
  unfold I8 la
  rw[U4 rfl,U4 rfl]
  have:DJ ([]++[[]]) t=[[t]]:=gG [] [] t
  rw[this]
 induction h with
 |fin hy=>
  intro h
  rcases h _ _ rfl with h1|h1
  ·exact absurd h1 hy
  ·subst h1;exact .fin
 |bad he=>exact fun _=>((O4 he) _ _ _ hE (hu _)).1 _ rfl
 |more he _ ih=>
  intro _
  refine((O4 he) _ _ _ hE (hu _)).2 _ _ rfl _ (ih ?_)
  obtain⟨_,y',W,h2,E⟩:=GI he _ _ rfl
  intro y q h4
  rw[h2] at h4
  cases h4
  exact E
def fk (m:ab) (b:UInt8):Bool:=vI b m.fElement||vI b m.fEnd
def tS (l:bt):Bool:=(match l with|[]=>true|b::l=>zm b&&l.all wV)&&decide (l.length<=6)
def u_ (m:ab) (r:bt):bt⊕(bt×bt):=
 match r.dropWhile (fun b=> !fk m b) with
 |[]=> .inl (if tS r=true then[] else r)
 |y::q=>if nq (r.takeWhile fun b=> !fk m b)=true then .inr (r.takeWhile (fun b=> !fk m b),y::q) else .inl r
theorem lw (a b:UInt8):vI a b=true↔a=b:=by
 unfold vI
 rw[S5]
 constructor
 ·intro h;exact Up.1 oM
 ·intro h;rw[h]
theorem n7 {s:bt} (h:u_ m r= .inr (s,q)):r=s++q/\(∃ y q',q=y::q'/\(y=m.fElement\/y=m.fEnd))/\nq s=true:=by
 unfold u_ at h
 split at h
 ·cases h
 ·rename_i y q' hd
  split at h
  ·rename_i ht
   cases h
   refine⟨?_,⟨y,q',rfl, ?_⟩,ht⟩
   ·have:=List.takeWhile_append_dropWhile (p:=fun b=> !fk m b) (l:=r)
    rw[hd] at this
    exact this.symm
   ·have:=l6 hd
    simp only[Bool.not_eq_false',fk,TE,lw] at this
    exact this
  ·cases h
theorem KT (h:u_ m r= .inl q):q=[]\/q=r:=by
 unfold u_ at h
 split at h
 ·cases h;split
  ·exact .inl rfl
  ·exact .inr rfl
 ·split at h
  ·cases h
  ·cases h;exact .inr rfl
inductive ui (m:ab):bt->bt⊕(aa×bt)->Prop
 |tag {r q:_}:u_ m r= .inl q->ui m r (.inl q)
 |bad {r s q p:_}:u_ m r= .inr (s,q)->vR m [] q (.inl p)->ui m r (.inl p)
 |ok {r s q els y q':_}:u_ m r= .inr (s,q)->vR m [] q (.inr (els,y::q'))->ui m r (.inr (⟨s,els⟩,q'))
theorem I_ (m:ab) (r:bt):∃ res,ui m r res:=by
 cases ht:u_ m r with
 |inl q=>exact⟨_,.tag ht⟩
 |inr sq=>
  obtain⟨s,q⟩:=sq
  obtain⟨_,⟨y,q',h1,_⟩,_⟩:=n7 ht
  obtain⟨res,o⟩:=I7 m q.length q (SZ _) ⟨y,q',h1⟩ []
  cases res with
  |inl p=>exact⟨_,.bad ht o⟩
  |inr a=>
   obtain⟨els,W⟩:=a
   obtain⟨_,b,q3,rfl,_⟩:=(DK o).1 _ _ rfl
   exact⟨_,.ok ht o⟩
theorem GJ {res:bt⊕(aa×bt)} (h:ui m r res):(∀ q,res= .inl q->q.length<=r.length)/\∀ s q,res= .inr (s,q)->q.length<r.length:=by
 cases h with
 |tag ht=>
  refine⟨fun q h=> ?_,fun _ _ h=>by cases h⟩
  cases h
  rcases KT ht with rfl|rfl
  ·simp
  ·exact SZ _
 |bad ht he=>
  refine⟨fun q h=> ?_,fun _ _ h=>by cases h⟩
  cases h
  have h1:=(DK he).2 _ rfl
  have h2:=TX List.length (n7 ht).1
  rw[SS] at h2
  omega
 |ok ht he=>
  refine⟨fun q h=>(by cases h),fun s q h=> ?_⟩
  cases h
  have h1:=((DK he).1 _ _ rfl).1
  have h2:=TX List.length (n7 ht).1
  rw[SS] at h2
  simp only[ST] at h1
  omega
def e4 (q:bt):Bool:=match q with|10::_=>true|_=>false
inductive n8 (m:ab):List aa->Bool->bt->bt⊕(List aa×Bool)->Prop
 |nil {out ln:_}:n8 m out ln [] (.inr (out,ln))
 |bad {out ln r q:_}:r≠[]->ui m r (.inl q)->n8 m out ln r (.inl q)
 |stop {out ln r s q:_}:r≠[]->ui m r (.inr (s,q))->out≠[]->ln≠e4 q->n8 m out ln r (.inl q)
 |more {out ln r s q res:_}:r≠[]->ui m r (.inr (s,q))->(out=[]\/ln=e4 q)->n8 m (out++[s]) (e4 q) (if e4 q=true then q.tail else q) res->n8 m out ln r res
theorem Ja (m:ab):∀ (n:Nat) (r:bt),r.length<=n->∀ out ln,∃ res,n8 m out ln r res:=by
 intro n
 induction n with
 |zero=>
  intro r D out ln
  have:r=[]:=Ta.1 oM
  subst this
  exact⟨_,.nil⟩
 |succ n ih=>
  intro r D out ln
  by_cases h0:r=[]
  ·subst h0;exact⟨_,.nil⟩
  ·obtain⟨res,hs⟩:=I_ m r
   cases res with
   |inl q=>exact⟨_,.bad h0 hs⟩
   |inr sq=>
    obtain⟨s,q⟩:=sq
    have hl:=(GJ hs).2 _ _ rfl
    by_cases hc:out=[]\/ln=e4 q
    ·obtain⟨res,s9⟩:=ih (if e4 q=true then q.tail else q) (by split;(· simp only[List.length_tail];omega);(· omega)) (out++[s]) (e4 q)
     exact⟨_,.more h0 hs hc s9⟩
    ·exact⟨_,.stop h0 hs (fun h=>hc (.inl h)) (fun h=>hc (.inr h))⟩
variable {A R S X α:Type} {f:S->Option (S⊕A)} {k:A->Option R}
theorem wS {c:Option R} (st:X->S) (g:X->Nat) (P:X->Prop) (h:∀ x,P x->(∃ y,P y/\g y<g x/\f (st x)=some (.inl (st y)))\/(∃ a,f (st x)=some (.inr a)/\k a=c)) (x:X) (hx:P x):(bc f (st x)).bind k=c:=by
 have:∀ n x,g x<=n->P x->(bc f (st x)).bind k=c:=by
  intro n
  induction n with
  |zero=>
   intro x hn hx
   rcases h x hx with⟨y,_,h2,_⟩|⟨a,h1,h2⟩
   ·omega
   ·rw[b3,h1];exact h2
  |succ n ih=>
   intro x hn hx
   rcases h x hx with⟨y,h1,h2,E⟩|⟨a,h1,h2⟩
   ·rw[b3,E];exact ih y oM h1
   ·rw[b3,h1];exact h2
 exact this (g x) x (SZ _) hx
theorem wT {C:R->Prop} (st:X->S) (g:X->Nat) (P:X->Prop) (h:∀ x,P x->(∃ y,P y/\g y<g x/\f (st x)=some (.inl (st y)))\/(∃ a c,f (st x)=some (.inr a)/\k a=some c/\C c)) (x:X) (hx:P x):∃ c,(bc f (st x)).bind k=some c/\C c:=by
 have:∀ n x,g x<=n->P x->∃ c,(bc f (st x)).bind k=some c/\C c:=by
  intro n
  induction n with
  |zero=>
   intro x hn hx
   rcases h x hx with⟨y,_,h2,_⟩|⟨a,c,h1,h2,E⟩
   ·omega
   ·rw[b3,h1];exact⟨c,h2,E⟩
  |succ n ih=>
   intro x hn hx
   rcases h x hx with⟨y,h1,h2,E⟩|⟨a,c,h1,h2,E⟩
   ·rw[b3,E];exact ih y oM h1
   ·rw[b3,h1];exact⟨c,h2,E⟩
 exact this (g x) x (SZ _) hx
theorem x_ (l:List α) (q:α->Bool) (a:R) {f:Int->Option (Int⊕(Int⊕R))} {K:Int->Option R} (hb:∀ (i:Nat) (e:α),l[i]?=some e->f (i:Int)=if q e=true then some (.inl ((i+1:Nat):Int)) else some (.inr (.inr a))) (he:f (l.length:Int)=some (.inr (.inl (l.length:Int)))):
  (bc f 0).bind (c3 K)=if l.all q=true then K (l.length:Int) else some a:=by
 refine wS (X:=Nat) (fun i=>((i:Nat):Int)) (fun i=>l.length - i) (fun i=>i<=l.length/\(l.take i).all q=true) ?_ 0 ⟨TK _,rfl⟩
 rintro i ⟨h1,h2⟩
 rcases Ty i l.length with hi|hi
 ·obtain⟨e,hx⟩:=eF hi
  cases hq:q e with
  |true=>
   refine .inl ⟨i+1,⟨hi, ?_⟩,by omega,by rw[hb i e hx,hq];rfl⟩
   rw[nW hx,List.all_append,h2]
   simp[hq]
  |false=>
   refine .inr ⟨_,by rw[hb i e hx,hq];rfl, ?_⟩
   have:l.all q=false:=by
    rw[List.all_eq_false]
    exact⟨e,SW hx,by rw[hq];decide⟩
   rw[this];rfl
 ·have hl:i=l.length:=by omega
  subst hl
  rw[UJ] at h2
  refine .inr ⟨_,he, ?_⟩
  rw[h2];rfl
theorem nY (l:List α) (x:α) (h:l.length<9223372036854775807):b4 (l++[x]) (IntKind.i64.wrap (((l++[x]).length:Int) - 1))=some x/\(IntKind.i64.wrap (((l++[x]).length:Int) - 1)).toNat=l.length:=by
 have e:IntKind.i64.wrap (((l++[x]).length:Int) - 1)=((l.length:Nat):Int):=by
  rw[SS,Tw,bh _ oM oM];omega
 rw[e,aw,Tr (SZ _),T9]
 exact⟨rfl,by omega⟩
variable {a b:UInt8} {i:Nat} {q r:bt}
theorem jV {b:bt} (h:b.drop i=r) (hi:i<=b.length):i+r.length=b.length:=by
 have:=TX List.length h
 rw[TQ] at this;omega
theorem Jb {b s:bt} (h:b.drop i=s++r):b.drop (i+s.length)=r:=by
 rw[<-T4,h,UI]
theorem Jc (m:ab) (x:UInt8):m8 (!decide ((m.fEscape.toNat:Int)=0)) (some (decide ((x.toNat:Int)=(m.fEscape.toNat:Int))))=some (rW m x):=by rw[cx];rfl
theorem Jd (x:UInt8):LG (decide ((x.toNat:Int)<32)) (some (decide ((126:Int)<(x.toNat:Int))))=some (E_ x):=by rw[bT];rfl
def DL (o:bt):bt⊕(bt×bt)->bt⊕(bt×bt)
 | .inl q=> .inl q
 | .inr (t,q)=> .inr (o++t,q)
theorem CG (o:bt) (x:UInt8) (z:bt⊕(bt×bt)):DL (o++[x]) z=DL o (match z with| .inl q=> .inl q| .inr (t,q)=> .inr (x::t,q)):=by
 rcases z with q|⟨t,q⟩
 ·rfl
 ·simp[DL]
def vS (m:ab) (b:bt) (l:List aa) (st:List Int) (ln:Bool):bt⊕(bt×bt)->((bt×Bool)×aF)
 | .inl q=>(([],false),⟨m,b,((b.length - q.length:Nat):Int),l,st,ln⟩)
 | .inr (t,q)=>((t,true),⟨m,b,((b.length - q.length:Nat):Int),l,st,ln⟩)
theorem q2 (m:ab) (x:UInt8) (r:bt):cQ m (x::r)=if rW m x=true then
   match r with
   |[]=> .inl []
   |y::r=>if ud m y=true then(match cQ m r with| .inl q=> .inl q| .inr (o,q)=> .inr (y::o,q)) else .inl (y::r)
  else if ud m x=true then .inr ([],x::r)
  else if E_ x=true then .inl (x::r)
  else match cQ m r with| .inl q=> .inl q| .inr (o,q)=> .inr (x::o,q):=by
 conv=>lhs;unfold cQ
 rfl
theorem tT {m:ab} {t:bt} (h:cQ m r= .inr (t,q)):∃ u,r=u++q:=by
 have key:∀ (n:Nat) (r:bt),r.length<=n->∀ t q,cQ m r= .inr (t,q)->∃ u,r=u++q:=by
  intro n
  induction n with
  |zero=>
   intro r D t q h
   have:r=[]:=Ta.1 oM
   subst this
   rw[cQ] at h;cases h
  |succ n ih=>
   intro r D t q h
   cases r with
   |nil=>rw[cQ] at h;cases h
   |cons x r=>
    have D:r.length<=n:=by simpa using D
    unfold cQ at h
    split at h
    ·cases r with
     |nil=>cases h
     |cons y r=>
      simp only at h
      split at h
      ·cases Y:cQ m r with
       |inl p=>rw[Y] at h;cases h
       |inr a=>
        obtain⟨o,p⟩:=a
        obtain⟨u,hu⟩:=ih r (by simp at D;omega) o p Y
        rw[Y] at h
        cases h
        exact⟨x::y::u,by rw[hu];rfl⟩
      ·cases h
    ·split at h
     ·cases h;exact⟨[],rfl⟩
     ·split at h
      ·cases h
      ·cases Y:cQ m r with
       |inl p=>rw[Y] at h;cases h
       |inr a=>
        obtain⟨o,p⟩:=a
        obtain⟨u,hu⟩:=ih r D o p Y
        rw[Y] at h
        cases h
        exact⟨x::u,by rw[hu];rfl⟩
 exact key r.length r (SZ _) t q h
theorem mB {b u:bt} (h:b.drop i=r) (hi:i<=b.length) (D:r=u++q):b.drop (b.length - q.length)=q:=by
 have h1:=jV h hi
 rw[D] at h h1
 rw[SS] at h1
 have:=Jb h
 rwa[show i+u.length=b.length - q.length by omega] at this
theorem Ns (m:ab) (b r:bt) (i:Nat) (l:List aa) (st:List Int) (ln:Bool) (hd:b.drop i=r) (hi:i<=b.length) (hb:b.length<=1000000):
  e5 ⟨m,b,(i:Int),l,st,ln⟩=some (vS m b l st ln (cQ m r)):=by
 unfold e5 sk;dsimp only
 refine wS (X:=Nat×bt×bt) (fun x=>(m,b,((x.1:Nat):Int),l,st,ln,x.2.2)) (fun x=>x.2.1.length) (fun x=>b.drop x.1=x.2.1/\x.1<=b.length/\x.2.2.length<=x.1/\cQ m r=DL x.2.2 (cQ m x.2.1)) ?_ (i,r,[]) ⟨hd,hi,TK _, ?_⟩
 ·rintro⟨i,r',o⟩ ⟨h1,h2,E,h4⟩
  simp only at h1 h2 E h4⊢
  rw[h4]
  cases r' with
  |nil=>
   have hl:=gU h1 h2
   refine .inr ⟨_,by subst hl;simp only[aB,S7];rfl, ?_⟩
   rw[cQ]
   simp only[DL,vS,c3,S3,Nat.sub_zero,hl]
  |cons x r'=>
   obtain⟨g1,g2,g3⟩:=gH h1
   have I:=jV h1 h2
   have k:=jV g3 oM
   simp only[ST] at I
   have e1:((i:Nat):Int)=((b.length - (x::r').length:Nat):Int):=by simp only[ST];omega
   simp only[br g2,S4,aw,g1,SQ,Jc,bB i oM]
   rw[q2]
   cases he:rW m x with
   |true=>
    simp only[S4,TB]
    cases r' with
    |nil=>
     have hl:=gU g3 oM
     have d:decide (((i+1:Nat):Int)=(b.length:Int))=true:=UU oM
     refine .inr ⟨_,by simp only[d,LG,S4,SQ];rfl, ?_⟩
     simp only[DL,vS,c3,S3,Nat.sub_zero,hl]
    |cons y r'=>
     obtain⟨k1,k2,k3⟩:=gH g3
     have d:decide (((i+1:Nat):Int)=(b.length:Int))=false:=TZ oM
     simp only[d,aw,k1,SQ,IE,bT,T7]
     have r5:=jV k3 oM
     cases hy:ud m y with
     |false=>
      refine .inr ⟨_,by simp only[Tm,S4];rfl, ?_⟩
      simp only[DL,vS,c3,ST,Tb,Tq]
      rw[show b.length - (r'.length+1)=i+1 by omega]
     |true=>
      refine .inl ⟨(i+2,r',o++[y]),⟨k3,by omega,by simp;omega, ?_⟩,by simp only[ST];omega, ?_⟩
      ·simp only[TB]
       rw[CG]
       rcases cQ m r' with q|⟨t,q⟩<;>rfl
      ·simp only[S9,S7]
       rw[bU oT,bB (i+1) oM]
   |false=>
    simp only[S7,Tb,Tq,IE,SQ]
    cases Z:ud m x with
    |true=>
     refine .inr ⟨_,by simp only[S4];rfl, ?_⟩
     simp only[DL,vS,c3,TB,Tg]
     rw[<-e1]
    |false=>
     simp only[S7,Tb,Tq,Jd,SQ]
     cases ho:E_ x with
     |true=>
      refine .inr ⟨_,by simp only[S4];rfl, ?_⟩
      simp only[DL,vS,c3,TB]
      rw[<-e1]
     |false=>
      refine .inl ⟨(i+1,r',o++[x]),⟨g3,by omega,by simp;omega, ?_⟩,by simp, ?_⟩
      ·simp only[Tb,Tq]
       rw[CG]
       rcases cQ m r' with q|⟨t,q⟩<;>rfl
      ·simp only[S7]
       rw[bU oT]
 ·cases cQ m r with
  |inl q=>rfl
  |inr a=>obtain⟨t,q⟩:=a;rfl
def O5 (m:ab) (b:bt) (l:List aa) (st:List Int) (ln:Bool) (z:(aj×Bool)×aF):bt⊕(List (List bt)×bt)->Prop
 | .inl q=>z.1.2=false/\z.2=⟨m,b,((b.length - q.length:Nat):Int),l,st,ln⟩
 | .inr (xs,q)=>z=((⟨xs⟩,true),⟨m,b,((b.length - q.length:Nat):Int),l,st,ln⟩)
theorem Nu (h:a=b):decide ((a.toNat:Int)=(b.toNat:Int))=true:=UU (by rw[h])
theorem DM (h:¬ a=b):decide ((a.toNat:Int)=(b.toNat:Int))=false:=TZ fun e=>h (Up.1 oM)
theorem zV (m:ab) (b r:bt) (i:Nat) (l:List aa) (st:List Int) (ln:Bool) (hd:b.drop i=r) (hi:i<=b.length) (hb:b.length<=1000000) {res:bt⊕(List (List bt)×bt)} (o:Fb m m.fRepeat [] r res):
  ∃ z,ek ⟨m,b,(i:Int),l,st,ln⟩=some z/\O5 m b l st ln z res:=by
 unfold ek sm;dsimp only
 refine wT (X:=Nat×bt×List (List bt)×UInt8) (fun x=>(m,b,((x.1:Nat):Int),l,st,ln,x.2.2.1,(⟨[]⟩:aj),x.2.2.2)) (fun x=>x.2.1.length) (fun x=>b.drop x.1=x.2.1/\x.1<=b.length/\x.2.2.1.length+(x.2.2.1.map List.length).sum<=2 * x.1/\(x.2.2.2=m.fRepeat\/x.2.2.1≠[])/\Fb m x.2.2.2 x.2.2.1 x.2.1 res) ?_ (i,r,[],m.fRepeat) ⟨hd,hi,TK _,.inl rfl,o⟩
 rintro⟨i,r',xs,k⟩ ⟨h1,h2,E,h4,h5⟩
 simp only at h1 h2 E h4 h5⊢
 have G:=Ns m b r' i l st ln h1 h2 oM
 have I:=jV h1 h2
 have a:∀ t,∃ ys p,(if k=m.fRepeat then xs++[[]] else xs)=ys++[p]/\la m k xs t=ys++[p++[t]]/\ys.length+1+(ys.map List.length).sum+p.length<=2 * i+1:=fun t=>by
  unfold la
  by_cases hk:k=m.fRepeat
  ·refine⟨xs,[],by rw[U4 hk],by rw[U4 hk,gG],by simp;omega⟩
  ·have U:xs≠[]:=h4.resolve_left hk
   have e:=UK U
   refine⟨xs.dropLast,xs.getLast U,by rw[if_neg hk,e],by rw[if_neg hk,<-gG,e], ?_⟩
   rw[<-e] at E
   simp only[SS,Tw,TY,Tc,Ug,List.sum_append,UY,List.sum_nil] at E
   omega
 cases h5 with
 | @bad _ _ _ q Y=>
  rw[Y] at G
  unfold vS at G
  exact .inr ⟨_,_,by simp only[G,SQ,Tm,S4];rfl,rfl,rfl,rfl⟩
 | @fin _ _ _ t y q Y hy=>
  obtain⟨ys,p,e1,e2,e3⟩:=a t
  obtain⟨u,hu⟩:=tT Y
  have n:=mB h1 h2 hu
  obtain⟨g1,g2,g3⟩:=gH n
  have hv:(decide ((y.toNat:Int)=(m.fElement.toNat:Int))||decide ((y.toNat:Int)=(m.fEnd.toNat:Int)))=true:=by
   rcases hy with h|h
   ·rw[Nu h,Bool.true_or]
   ·rw[Nu h,Bool.or_true]
  refine .inr ⟨.inr ((⟨la m k xs t⟩,true),⟨m,b,((b.length - (y::q).length:Nat):Int),l,st,ln⟩),((⟨la m k xs t⟩,true),⟨m,b,((b.length - (y::q).length:Nat):Int),l,st,ln⟩), ?_,rfl,rfl⟩
  rw[Y] at G
  unfold vS at G
  simp only[G,SQ]
  obtain⟨c,d⟩:=nY ys p oM
  by_cases hk:k=m.fRepeat
  ·rw[U4 hk] at e1
   simp only[S9,S7,Nu hk,S4,e1,c,d,SQ,aw,g1,bT,hv]
   have hx:xs.length+1=ys.length+1:=by have:=TX List.length e1;simpa using this
   rw[bU (by simp only[Tw];omega),bU (by simp only[Tw];omega),e2,T3 _ _ (SZ _),T9]
   rfl
  ·rw[if_neg hk] at e1
   rw[e2]
   simp only[S9,S7,DM hk,e1,c,d,SQ,aw,g1,bT,hv,S4]
   rw[bU (by simp only[Tw];omega),T3 _ _ (SZ _),T9]
   rfl
 | @more _ _ _ t y q _ Y hy D=>
  obtain⟨ys,p,e1,e2,e3⟩:=a t
  obtain⟨u,hu⟩:=tT Y
  have n:=mB h1 h2 hu
  obtain⟨g1,g2,g3⟩:=gH n
  have hv:(decide ((y.toNat:Int)=(m.fElement.toNat:Int))||decide ((y.toNat:Int)=(m.fEnd.toNat:Int)))=false:=by
   rw[DM (fun h=>hy (.inl h)),DM (fun h=>hy (.inr h))];rfl
  have H:=(mA Y).1
  have f:=(mA Y).2.1
  simp only[ST] at H f I
  refine .inl ⟨(b.length - (y::q).length+1,q,la m k xs t,y),⟨g3,by omega, ?_,.inr (HW h4),D⟩,by simp only;omega, ?_⟩
  ·simp only[e2,SS,Tw,TY,Tc,Ug,List.sum_append,UY,List.sum_nil,ST,S3]
   omega
  rw[Y] at G
  unfold vS at G
  simp only[G,SQ]
  obtain⟨c,d⟩:=nY ys p oM
  by_cases hk:k=m.fRepeat
  ·rw[U4 hk] at e1
   simp only[S9,S7,Nu hk,S4,e1,c,d,SQ,aw,g1,bT,hv]
   have hx:xs.length+1=ys.length+1:=by have:=TX List.length e1;simpa using this
   rw[bU (by simp only[Tw];omega),bU (by simp only[Tw];omega),bB _ oM,e2,T3 _ _ (SZ _),T9]
   rfl
  ·rw[if_neg hk] at e1
   rw[e2]
   simp only[S9,S7,DM hk,e1,c,d,SQ,aw,g1,bT,hv]
   rw[bU (by simp only[Tw];omega),bB _ oM,T3 _ _ (SZ _),T9]
   rfl
end Go.Proofs.YtgmnipfafmphaaaGreatDoor

namespace Go.Proofs.YtgmnipfafmphaaaGreatDoor
open Go.RowKit
set_option linter.unusedSimpArgs false
set_option linter.unusedVariables false
variable {i:Nat} {m:ab} {q r:bt} {res:bt⊕(aa×bt)} {α:Type}
theorem Fc (l:List α) (h:i<=l.length):cz l (i:Int) (l.length:Int)=some (l.drop i):=by
 unfold cz
 rw[U4 ⟨by omega,by omega,by omega⟩]
 simp
theorem zW (l:List α) {n:Nat} (h:i+n<=l.length):cz l (i:Int) (((i+n:Nat)):Int)=some ((l.drop i).take n):=by
 unfold cz
 rw[U4 ⟨by omega,by omega,by omega⟩]
 simp only[Ue]
 rw[List.drop_take,show i+n - i=n by omega]
theorem pm (m:ab) (b:UInt8):([m.fElement,m.fEnd]:bt).contains b=fk m b:=by
 rw[TV]
 unfold fk
 rw[TE,lw,lw]
 simp
theorem uw {p:UInt8->Bool}:∀ {l:bt} {x:UInt8},x∈l.takeWhile p->p x=true
 |[],_,h=>by cases h
 |a::l,x,h=>by
  rw[U8] at h
  split at h
  ·rename_i ha
   rcases Tf.1 h with rfl|h
   ·exact ha
   ·exact uw h
  ·cases h
theorem B8 (m:ab) (r:bt):Lib.indexAny r [m.fElement,m.fEnd]=match r.dropWhile (fun b=> !fk m b) with
  |[]=> -1
  |_::_=>(((r.takeWhile fun b=> !fk m b).length:Nat):Int):=by
 cases hd:r.dropWhile (fun b=> !fk m b) with
 |nil=>
  have:=ke.1 hd
  refine Lib.indexAny_none fun j b hj hb=> ?_
  rw[pm]
  simpa using this b (SW hb)
 |cons y q=>
  have h1:=List.takeWhile_append_dropWhile (p:=fun b=> !fk m b) (l:=r)
  rw[hd] at h1
  have h2:=l6 hd
  refine Lib.indexAny_hit (x:=y) (fun j b hj hb=> ?_) ?_ ?_
  ·rw[<-h1,TP hj] at hb
   have:=uw (SW hb)
   rw[pm]
   simpa using this
  ·have:∀ (a:bt),(a++y::q)[a.length]?=some y:=fun a=>by rw[Tr (SZ _),T9];rfl
   have:=this (r.takeWhile fun b=> !fk m b)
   rwa[h1] at this
  ·rw[pm];simpa using h2
theorem GK (b:UInt8) (l:bt) (hl:l.length<=1000000):ni (b::l)=some (tS (b::l)):=by
 unfold ni sf;dsimp only
 have hs:cz (b::l) ((none:Option Int).getD 0) ((some (1:Int)).getD ((b::l).length:Int))=some [b]:=by
  have:=zW (b::l) (i:=0) (n:=1) oS
  simpa using this
 have a:jh [b]=some (!(decide ((b.toNat:Int)<48)||decide ((57:Int)<(b.toNat:Int)))):=by
  unfold jh aZ;dsimp only
  rw[vE _ _ _ oS]
  have e1:(((UInt8.ofNat (Int.toNat 48)).toNat:Nat):Int)=48:=rfl
  have e2:(((UInt8.ofNat (Int.toNat 57)).toNat:Nat):Int)=57:=rfl
  have e3:decide (([b]:bt)=[])=false:=TZ oS
  simp only[e1,e2,e3,Tm,m8,S4,SQ,U9,List.findSome?_nil]
  cases(decide ((b.toNat:Int)<48)||decide ((57:Int)<(b.toNat:Int)))<;>rfl
 have h1:iE (b::l)=some ((b::l).all wV):=by rw[nK _ oT,BK]
 have h2:iE [b]=some ([b].all wV):=by rw[nK _ oS,BK]
 have hd:decide (((b::l).length:Int)<=6)=decide ((b::l).length<=6):=by congr 1;apply propext;omega
 simp only[hs,h1,h2,a,hd,SQ,cx]
 have hb:(wV b&& !!(decide ((b.toNat:Int)<48)||decide ((57:Int)<(b.toNat:Int))))=zm b:=by
  unfold wV zm
  by_cases g1:(b.toNat:Int)<48<;>by_cases g2:(57:Int)<(b.toNat:Int)<;>simp[g1,g2]<;>omega
 have hx:∀ p q t d:Bool,(p&&(t&&q)&&(t&&true)&&d)=(((t&&d)&&q)&&p):=by decide
 unfold tS
 simp only[Uk,List.all_nil,hx,Bool.not_not] at hb⊢
 rw[hb]
theorem Fd {b:UInt8} (h:eG b=true):b.toNat<128:=by
 unfold eG at h
 simp only[SR,TI,TS,Tk] at h
 omega
def GL (m:ab) (b:bt) (l:List aa) (st:List Int) (ln:Bool):bt⊕(bt×bt)->((bt×Bool)×aF)
 | .inl q=>(([],false),⟨m,b,((b.length - q.length:Nat):Int),l,st,ln⟩)
 | .inr (t,q)=>((t,true),⟨m,b,((b.length - q.length:Nat):Int),l,st,ln⟩)
theorem PI (m:ab) (hE:eG m.fElement=true) (F:eG m.fEnd=true) (b r:bt) (i:Nat) (l:List aa) (st:List Int) (ln:Bool) (hd:b.drop i=r) (hi:i<=b.length) (D:r≠[]) (hb:b.length<=1000000):
  fj ⟨m,b,(i:Int),l,st,ln⟩=some (GL m b l st ln (u_ m r)):=by
 unfold fj sj;dsimp only
 have I:=jV hd hi
 have hs:cz b ((some (i:Int)).getD 0) ((none:Option Int).getD (b.length:Int))=some r:=by
  have:=Fc b hi
  rw[hd] at this
  exact this
 have hx:jy r [m.fElement,m.fEnd]=some (Lib.indexAny r [m.fElement,m.fEnd]):=by
  unfold jy
  rw[U4]
  refine⟨by omega,rfl, ?_⟩
  simp[Fd hE,Fd F]
 simp only[hs,hx,SQ,B8]
 unfold u_
 cases c:r.dropWhile (fun b=> !fk m b) with
 |nil=>
  cases r with
  |nil=>exact absurd rfl D
  |cons x r=>
   have d:decide ((-1:Int)<0)=true:=by decide
   simp only[d,S4,GK x r (by simp at I;omega),SQ]
   cases tS (x::r) with
   |true=>simp only[S4,TB,GL,S3,Nat.sub_zero]
   |false=>
    simp only[S7,Tb,Tq,GL]
    rw[show b.length - (x::r).length=i by omega]
 |cons y q=>
  simp only
  have h1:=List.takeWhile_append_dropWhile (p:=fun b=> !fk m b) (l:=r)
  rw[c] at h1
  have h2:=TX List.length h1
  rw[SS] at h2
  have d:decide ((((r.takeWhile fun b=> !fk m b).length:Nat):Int)<0)=false:=TZ oM
  have G:IntKind.i64.wrap ((i:Int)+(((r.takeWhile fun b=> !fk m b).length:Nat):Int))=((i+(r.takeWhile fun b=> !fk m b).length:Nat):Int):=by rw[bh _ oM oM];omega
  have j:cz b ((some (i:Int)).getD 0) ((some ((i+(r.takeWhile fun b=> !fk m b).length:Nat):Int)).getD (b.length:Int))=some (r.takeWhile fun b=> !fk m b):=by
   have:=zW b (i:=i) (n:=(r.takeWhile fun b=> !fk m b).length) oM
   rw[hd] at this
   simp only[TU]
   rw[this]
   congr 1
   have E:∀ (a:bt),(a++y::q).take a.length=a:=fun a=>List.take_left
   have:=E (r.takeWhile fun b=> !fk m b)
   rwa[h1] at this
  simp only[d,S7,G,j,SQ]
  rw[Pk _ oM]
  cases ht:nq (r.takeWhile fun b=> !fk m b) with
  |true=>
   simp only[SQ,S9,S7,TB,GL]
   rw[show b.length - (y::q).length=i+(r.takeWhile fun b=> !fk m b).length by omega]
  |false=>
   simp only[SQ,Tm,S4,Tb,Tq,GL]
   rw[show b.length - r.length=i by omega]
def zX (l:List aa) (ln:Bool) (q:bt):Bool:=if l=[] then e4 q else ln
def Fe (m:ab) (b:bt) (l:List aa) (ln:Bool) (st:List Int) (i:Nat) (z:Bool×aF):bt⊕(aa×bt)->Prop
 | .inl q=>z.1=false/\z.2.fi=((b.length - q.length:Nat):Int)
 | .inr (s,q)=>if(zX l ln q&& !e4 q)=true then z.1=false/\z.2.fi=((b.length - q.length:Nat):Int)
  else∃ j,j=st++[(i:Int)]/\z=(true,⟨m,b,((b.length - (if zX l ln q=true then q.tail else q).length:Nat):Int),l++[s],j,zX l ln q⟩)
theorem Nv {b:bt} (h:b.drop i=q) (hi:i<=b.length):(m8 (decide (((i:Nat):Int)<(b.length:Int))) ((b4 b ((i:Nat):Int)).bind fun e=>some (decide ((e.toNat:Int)=10))))=some (e4 q):=by
 cases q with
 |nil=>
  have:=gU h hi
  subst this
  rw[aB];rfl
 |cons x q=>
  obtain⟨h1,h2,_⟩:=gH h
  rw[br h2,aw,h1]
  simp only[SQ,cx,T1]
  congr 1
  by_cases hx:x=10
  ·subst hx;rfl
  ·have:e4 (x::q)=false:=by
    unfold e4
    split
    ·rename_i h;cases h;exact absurd rfl hx
    ·rfl
   rw[this]
   refine TZ fun e=>hx (Up.1 ?_)
   have:(10:UInt8).toNat=10:=rfl
   omega
theorem sA (h:e4 q=true):q=10::q.tail:=by
 unfold e4 at h
 split at h
 ·rfl
 ·cases h
theorem Je (h:ui m r res):(∃ q,u_ m r= .inl q/\res= .inl q)\/
  ∃ s q d,u_ m r= .inr (s,q)/\vR m [] q d/\(∀ p,d= .inl p->res= .inl p)/\∀ els y q',d= .inr (els,y::q')->res= .inr (⟨s,els⟩,q'):=by
 cases h with
 |tag ht=>exact .inl ⟨_,ht,rfl⟩
 |bad ht he=>exact .inr ⟨_,_,_,ht,he,(fun p h=>by cases h;rfl),(fun _ _ _ h=>by cases h)⟩
 |ok ht he=>exact .inr ⟨_,_,_,ht,he,(fun p h=>by cases h),(fun _ _ _ h=>by cases h;rfl)⟩
theorem HY {k:UInt8} {xs:List (List bt)} {res:bt⊕(List (List bt)×bt)} (h:Fb m k xs r res):∀ h8 q',res= .inr (h8,q')->∃ u,r=u++q':=by
 induction h with
 |bad=>intro _ _ h;cases h
 |fin Y hy=>intro _ _ h;cases h;exact tT Y
 | @more k xs r t y q res Y hy _ ih=>
  intro h8 q' h
  obtain⟨u,hu⟩:=ih h8 q' h
  obtain⟨v,hv⟩:=tT Y
  exact⟨v++y::u,by rw[hv,hu];simp⟩
theorem va (m:ab) (hE:eG m.fElement=true) (F:eG m.fEnd=true) (b r:bt) (i:Nat) (l:List aa) (st:List Int) (ln:Bool) (hd:b.drop i=r) (hi:i<=b.length) (D:r≠[]) (hb:b.length<=1000000) (w:st.length<=i) (O:l.length<=i) (o:ui m r res):∃ z,cI ⟨m,b,(i:Int),l,st,ln⟩=some z/\Fe m b l ln st i z res:=by
 unfold cI sn;dsimp only
 have ht:=PI m hE F b r i l (st++[(i:Int)]) ln hd hi D hb
 have I:=jV hd hi
 rw[bU (by simp only[Tw];omega)]
 rcases Je o with⟨q,f,rfl⟩|⟨s,q,d,f,he,M,P⟩
 ·rw[f] at ht
  unfold GL at ht
  simp only[ht,SQ,Tm,S4]
  exact⟨_,rfl,rfl,rfl⟩
 ·rw[f] at ht
  unfold GL at ht
  obtain⟨u,_,_⟩:=n7 f
  have n:=mB hd hi u
  have H:q.length<=r.length:=by have:=TX List.length u;rw[SS] at this;omega
  simp only[ht,SQ,S9,S7]
  refine wT (X:=Nat×bt×List aj) (fun x=>(m,b,((x.1:Nat):Int),l,st++[(i:Int)],ln,s,x.2.2)) (fun x=>x.2.1.length) (fun x=>b.drop x.1=x.2.1/\x.1<=b.length/\x.2.2.length<=x.1/\vR m x.2.2 x.2.1 d) ?_ (b.length - q.length,q,[]) ⟨n,by omega,TK _,he⟩
  rintro⟨j,r',acc⟩ ⟨h1,h2,E,h4⟩
  simp only at h1 h2 E h4⊢
  cases h4 with
  | @bad _ q' p B=>
   obtain⟨g1,g2,g3⟩:=gH h1
   obtain⟨z,hz,t,v⟩:=zV m b q' (j+1) l (st++[(i:Int)]) ln g3 oM hb B
   obtain⟨⟨N,z2⟩,z3⟩:=z
   simp only at t v
   subst t v
   refine .inr ⟨_,_,by simp only[aw,g1,SQ,TA,S4,bB j oM,hz,Tm];rfl,rfl, ?_⟩
   rw[M p rfl]
   exact⟨rfl,rfl⟩
  | @more _ q' xs W _ B s9=>
   obtain⟨g1,g2,g3⟩:=gH h1
   obtain⟨z,hz,hc⟩:=zV m b q' (j+1) l (st++[(i:Int)]) ln g3 oM hb B
   unfold O5 at hc
   subst hc
   obtain⟨k1,k2⟩:=HY B _ _ rfl
   have L:=mB g3 oM k2
   have k:=jV g3 oM
   refine .inl ⟨(b.length - W.length,W,acc++[⟨xs⟩]),⟨L,by omega, ?_,s9⟩, ?_, ?_⟩
   ·simp only[SS,Tw]
    have:=TX List.length k2
    rw[SS] at this
    omega
   ·simp only[ST]
    have:=TX List.length k2
    rw[SS] at this
    omega
   ·simp only[aw,g1,SQ,TA,S4,bB j oM,hz,S9,S7]
    rw[bU (by simp only[Tw];omega)]
  | @fin _ y q' hy=>
   obtain⟨g1,g2,g3⟩:=gH h1
   have k:=jV g3 oM
   refine .inr ⟨.inl (m,b,((j:Nat):Int),l,st++[(i:Int)],ln,s,acc), ?_⟩
   have s4:∀ A:Type,True:=fun _=>trivial
   rw[P acc y q' rfl]
   have a:=Nv g3 oM
   have J:((j+1:Nat):Int)=((b.length - q'.length:Nat):Int):=by omega
   have hk:∀ (c:Bool),decide ((l.length:Int)=0)=c->(decide (l=[])=c):=fun c h=>by
    rw[<-h];congr 1;apply propext;rw[<-Ta];omega
   cases hl:decide ((l.length:Int)=0) with
   |true=>
    have K:l=[]:=by have:=hk _ hl;simpa using this
    have g:zX l ln q'=e4 q':=by unfold zX;rw[U4 K]
    cases C:e4 q' with
    |false=>
     refine⟨(true,⟨m,b,((j+1:Nat):Int),l++[⟨s,acc⟩],st++[(i:Int)],false⟩), ?_, ?_, ?_⟩
     ·simp only[aw,g1,SQ,DM hy,S7];rfl
     ·simp only[c3,bB j oM,a,C,SQ,hl,S4];simp only[m8,SQ,S4,S7]
      rw[bU oM]
     ·unfold Fe
      simp only[g,C,Vg,Tb,Tq]
      exact⟨st++[(i:Int)],rfl,by rw[J]⟩
    |true=>
     have hq:=sA C
     have e:=TX List.length hq
     simp only[ST] at e
     refine⟨(true,⟨m,b,((j+1+1:Nat):Int),l++[⟨s,acc⟩],st++[(i:Int)],true⟩), ?_, ?_, ?_⟩
     ·simp only[aw,g1,SQ,DM hy,S7];rfl
     ·simp only[c3,bB j oM,bB (j+1) oM,a,C,SQ,hl,S4];simp only[m8,SQ,S4,S9,S7]
      rw[bU oM]
     ·unfold Fe
      simp only[g,C,S9,Bool.and_false,Tb,Tq,TB]
      refine⟨st++[(i:Int)],rfl, ?_⟩
      rw[show b.length - q'.tail.length=j+1+1 by omega]
   |false=>
    have K:¬ l=[]:=by have:=hk _ hl;simpa using this
    have g:zX l ln q'=ln:=by unfold zX;rw[if_neg K]
    cases G:ln with
    |false=>
     subst G
     refine⟨(true,⟨m,b,((j+1:Nat):Int),l++[⟨s,acc⟩],st++[(i:Int)],false⟩), ?_, ?_, ?_⟩
     ·simp only[aw,g1,SQ,DM hy,S7];rfl
     ·simp only[c3,bB j oM,a,SQ,hl,S7];simp only[m8,SQ,S4,S7]
      rw[bU oM]
     ·unfold Fe
      simp only[g,Vg,Tb,Tq]
      exact⟨st++[(i:Int)],rfl,by rw[J]⟩
    |true=>
     subst G
     cases C:e4 q' with
     |false=>
      refine⟨(false,⟨m,b,((j+1:Nat):Int),l++[⟨s,acc⟩],st++[(i:Int)],true⟩), ?_, ?_, ?_⟩
      ·simp only[aw,g1,SQ,DM hy,S7];rfl
      ·simp only[c3,bB j oM,a,C,SQ,hl,S4];simp only[m8,SQ,S4,Tm,S7]
       rw[bU oM]
      ·unfold Fe
       simp only[g,C,Tm,Bool.and_true,TB]
       exact⟨trivial,J⟩
     |true=>
      have hq:=sA C
      have e:=TX List.length hq
      simp only[ST] at e
      refine⟨(true,⟨m,b,((j+1+1:Nat):Int),l++[⟨s,acc⟩],st++[(i:Int)],true⟩), ?_, ?_, ?_⟩
      ·simp only[aw,g1,SQ,DM hy,S7];rfl
      ·simp only[c3,bB j oM,bB (j+1) oM,a,C,SQ,hl,S4];simp only[m8,SQ,S4,S9,S7]
       rw[bU oM]
      ·unfold Fe
       simp only[g,C,S9,Bool.and_false,Tb,Tq,TB]
       refine⟨st++[(i:Int)],rfl, ?_⟩
       rw[show b.length - q'.tail.length=j+1+1 by omega]

variable {l:List aa} {m:ab} {q r:bt} {res:bt⊕(List aa×Bool)} {s:aa}
def PJ (m:ab) (b:bt) (res:bt⊕(List aa×Bool)) (st:List Int):Prop:=∀ (k:Nat) (n:Int),st[k]?=some n->∃ (j:Nat) (out:List aa) (ln:Bool),n=(j:Int)/\j<=b.length/\out.length=k/\n8 m out ln (b.drop j) res
theorem PJ.snoc {b:bt} {st:List Int} (h:PJ m b res st) {i:Nat} {ln:Bool} (hl:st.length=l.length) (h1:b.drop i=r) (h2:i<=b.length) (hc:n8 m l ln r res):PJ m b res (st++[(i:Int)]):=by
 intro k n hk
 rcases Nat.lt_trichotomy k st.length with X|B|c
 ·rw[TP X] at hk
  exact h k n hk
 ·subst B
  rw[Tr (SZ _),T9] at hk
  have hk:((i:Nat):Int)=n:=by simpa using hk
  exact⟨i,l,ln,hk.symm,h2,hl.symm,by rw[h1];exact hc⟩
 ·rw[List.getElem?_eq_none oT] at hk
  cases hk
def ux (m:ab) (b:bt) (z:Option aF×Int×Int):bt⊕(List aa×Bool)->Prop
 | .inl q=>z=(none,((b.length - q.length:Nat):Int),10)
 | .inr (x,p)=>if et x=0 then∃ c,z=(some c,0,0)/\c.flist=x/\c.flines=p/\c.fstarts.length=x.length/\PJ m b (.inr (x,p)) c.fstarts else z=(none,0,et x)
def xj (l:List aa):Prop:=∀ s∈l,nq s.fTag=true
theorem xj.short (h:xj l):nZ l:=fun s hs=>by have:=(EJ (h s hs)).1;omega
theorem xj.snoc (h:xj l) (hs:nq s.fTag=true):xj (l++[s]):=fun x hx=>by
 rcases Te.1 hx with hx|hx
 ·exact h x hx
 ·rw[Tj.1 hx];exact hs
theorem HZ (h:ui m r (.inr (s,q))):nq s.fTag=true:=by
 cases h with
 |ok ht _=>exact(n7 ht).2.2
theorem KU {acc:List aj} {res:bt⊕(List aj×bt)} (h:vR m acc r res):∀ a q',res= .inr (a,q')->∃ u,r=u++q':=by
 induction h with
 |fin=>intro _ _ h;cases h;exact⟨[],rfl⟩
 |bad=>intro _ _ h;cases h
 | @more acc q xs q' res he _ ih=>
  intro a W h
  obtain⟨u,hu⟩:=ih a W h
  obtain⟨v,hv⟩:=HY he _ _ rfl
  exact⟨m.fElement::(v++u),by rw[hv,hu];simp⟩
theorem Nw (a b:bt) (y:UInt8) (c:bt):a++(b++y::c)=(a++(b++[y]))++c:=by simp
theorem Ff (h:ui m r (.inr (s,q))):∃ u,r=u++q:=by
 cases h with
 |ok ht he=>
  obtain⟨u,hu⟩:=KU he _ _ rfl
  have h1:=(n7 ht).1
  rw[hu] at h1
  exact⟨_,h1.trans (Nw _ _ _ _)⟩
theorem KV (hE:eG m.fElement=true) (F:eG m.fEnd=true) (h:e4 r=true):ui m r (.inl r):=by
 refine .tag ?_
 have D:=sA h
 have o:eG 10=false:=by decide
 have w:fk m 10=false:=by
  cases hs:fk m 10 with
  |false=>rfl
  |true=>
   unfold fk at hs
   rw[TE,lw,lw] at hs
   rcases hs with hs|hs
   ·rw[<-hs,o] at hE;cases hE
   ·rw[<-hs,o] at F;cases F
 rw[D]
 unfold u_
 have e1:((10:UInt8)::r.tail).takeWhile (fun b=> !fk m b)=10::r.tail.takeWhile (fun b=> !fk m b):=by simp[U8,w]
 rw[e1]
 have e2:nq (10::r.tail.takeWhile (fun b=> !fk m b))=false:=by
  have:zm 10=false:=by decide
  simp[nq,this]
 have e3:tS ((10:UInt8)::r.tail)=false:=by
  have:zm 10=false:=by decide
  simp[tS,this]
 rw[e2,e3]
 split<;>simp
theorem CH (m:ab) (hE:eG m.fElement=true) (F:eG m.fEnd=true) (b:bt) (hb:b.length<=1000000) (o:n8 m [] false b res):∃ z,uW b m=some z/\ux m b z res:=by
 unfold uW sw;dsimp only
 refine wT (X:=Nat×bt×List aa×List Int×Bool) (fun x=>(m,b,((x.1:Nat):Int),x.2.2.1,x.2.2.2.1,x.2.2.2.2)) (fun x=>x.2.1.length)
  (fun x=>b.drop x.1=x.2.1/\x.1<=b.length/\x.2.2.2.1.length=x.2.2.1.length/\x.2.2.1.length<=x.1/\(xj x.2.2.1/\PJ m b res x.2.2.2.1)/\(n8 m x.2.2.1 x.2.2.2.2 x.2.1 res\/(e4 x.2.1=true/\res= .inl x.2.1))) ?_ (0,b,[],[],false) ⟨rfl,TK _,rfl,SZ _,⟨fun _ h=>(by cases h),fun k n hk=>(by simp at hk)⟩,.inl o⟩
 rintro⟨i,r,l,st,ln⟩ ⟨h1,h2,A,h4,⟨h5,w⟩,h6⟩
 simp only at h1 h2 A h4 h5 w h6⊢
 have E:st.length<=i:=by omega
 have I:=jV h1 h2
 have f:∀ q,r≠[]->ui m r (.inl q)->res= .inl q->∃ a c,(bif decide (((i:Nat):Int)<(b.length:Int)) then
   (cI ⟨⟨m.fElement,m.fPart,m.fRepeat,m.fEscape,m.fEnd⟩,b,((i:Nat):Int),l,st,ln⟩).bind fun y=>
    bif !y.1 then(h_ (h_ (some ((none:Option aF),y.2.fi,(10:Int)))):Option ((ab×bt×Int×List aa×List Int×Bool)⊕((ab×bt×Int×List aa×List Int×Bool)⊕(Option aF×Int×Int)))) else some (Sum.inl (y.2.fm,y.2.fb,y.2.fi,y.2.flist,y.2.fstarts,y.2.flines))
   else h_ (some (Sum.inl (m,b,((i:Nat):Int),l,st,ln))))=some (.inr (.inr a))/\a=c/\ux m b c res:=fun q D hs hq=>by
  obtain⟨⟨N,z2⟩,hz,t,v⟩:=va m hE F b r i l st ln h1 h2 D hb E h4 hs
  simp only at t v
  subst t
  have hi:i<b.length:=by
   have:0<r.length:=Ux.2 D
   omega
  refine⟨(none,z2.fi,10),_, ?_,rfl, ?_⟩
  ·simp only[br hi,S4,hz,SQ,Tm];rfl
  ·rw[hq,v];rfl
 rcases h6 with h6|⟨h6,h7⟩
 ·cases h6 with
  |nil=>
   have hi:=gU h1 h2
   have d:decide (((i:Nat):Int)<(b.length:Int))=false:=TZ oM
   cases p:decide (et l=0) with
   |true=>
    have r0:et l=0:=by simpa using p
    refine .inr ⟨.inl (m,b,((i:Nat):Int),l,st,ln),(some ⟨m,b,((i:Nat):Int),l,st,ln⟩,0,0), ?_, ?_, ?_⟩
    ·simp only[d,S7];rfl
    ·simp only[c3,EH l h5.short,SQ,p,S9,S7]
    ·simp only[ux,r0,TB]
     exact⟨_,rfl,rfl,rfl,A,w⟩
   |false=>
    have r0:¬ et l=0:=by simpa using p
    refine .inr ⟨.inl (m,b,((i:Nat):Int),l,st,ln),(none,0,et l), ?_, ?_, ?_⟩
    ·simp only[d,S7];rfl
    ·simp only[c3,EH l h5.short,SQ,p,Tm,S4]
    ·simp only[ux,r0,Tq]
  |bad D hs=>
   obtain⟨a,c,e1,e2,e3⟩:=f _ D hs rfl
   exact .inr ⟨.inr a,c,e1,by rw[<-e2];rfl,e3⟩
  | @stop _ _ _ s q D hs ho G=>
   obtain⟨⟨N,z2⟩,hz,hc⟩:=va m hE F b r i l st ln h1 h2 D hb E h4 hs
   obtain⟨u,hu⟩:=Ff hs
   have hq:=mB h1 h2 hu
   have H:=(GJ hs).2 _ _ rfl
   have hi:i<b.length:=by omega
   have g:zX l ln q=ln:=by unfold zX;rw[if_neg ho]
   simp only[Fe,g] at hc
   cases hl:ln with
   |true=>
    subst hl
    have C:e4 q=false:=by
     cases C:e4 q with
     |false=>rfl
     |true=>rw[C] at G;exact absurd rfl G
    simp only[C,Tm,UX,TB] at hc
    obtain⟨t,v⟩:=hc
    subst t
    refine .inr ⟨.inr (none,z2.fi,10),(none,z2.fi,10), ?_,rfl, ?_⟩
    ·simp only[br hi,S4,hz,SQ,Tm];rfl
    ·rw[v];rfl
   |false=>
    subst hl
    have C:e4 q=true:=by
     cases C:e4 q with
     |true=>rfl
     |false=>rw[C] at G;exact absurd rfl G
    simp only[Vg,Tb,Tq] at hc
    obtain⟨j,e,hc⟩:=hc
    rw[SU] at hc
    rw[hc.1,hc.2] at hz
    refine .inl ⟨(b.length - q.length,q,l++[s],j,false),⟨hq,by omega,by simp only[e,SS,ST,S3];omega,by simp;omega,⟨h5.snoc (HZ hs),by rw[e];exact w.snoc A h1 h2 (.stop D hs ho G)⟩,.inr ⟨C,rfl⟩⟩,H, ?_⟩
    simp only[br hi,S4,hz,SQ,S9,S7]
  | @more _ _ _ s q _ D hs ho s9=>
   obtain⟨⟨N,z2⟩,hz,hc⟩:=va m hE F b r i l st ln h1 h2 D hb E h4 hs
   obtain⟨u,hu⟩:=Ff hs
   have hq:=mB h1 h2 hu
   have H:=(GJ hs).2 _ _ rfl
   have hi:i<b.length:=by omega
   have g:zX l ln q=e4 q:=by
    unfold zX
    by_cases h0:l=[]
    ·rw[U4 h0]
    ·rw[if_neg h0];exact ho.resolve_left h0
   have B:(e4 q&& !e4 q)=false:=by cases e4 q<;>rfl
   simp only[Fe,g,B,Tb,Tq] at hc
   obtain⟨j,e,hc⟩:=hc
   rw[SU] at hc
   rw[hc.1,hc.2] at hz
   have r5:(if e4 q=true then q.tail else q).length<=q.length:=by split<;>simp
   refine .inl ⟨(b.length - (if e4 q=true then q.tail else q).length,(if e4 q=true then q.tail else q),l++[s],j,e4 q),⟨?_,by omega,by simp only[e,SS,ST,S3];omega,by simp;omega,⟨h5.snoc (HZ hs),by rw[e];exact w.snoc A h1 h2 (.more D hs ho s9)⟩,.inl s9⟩,by simp only;omega, ?_⟩
   ·cases C:e4 q with
    |false=>simpa using hq
    |true=>
     simp only[TB]
     have h9:=sA C
     refine mB (u:=u++[10]) h1 h2 ?_
     rw[hu]
     conv=>lhs;rw[h9]
     simp
   ·simp only[br hi,S4,hz,SQ,S9,S7]
 ·have D:r≠[]:=fun h=>by rw[h] at h6;cases h6
  obtain⟨a,c,e1,e2,e3⟩:=f r D (KV hE F h6) h7
  exact .inr ⟨.inr a,c,e1,by rw[<-e2];rfl,e3⟩
theorem nL {m:ab} (h:eq m=0):eG m.fElement=true/\eG m.fEnd=true/\m.fElement≠m.fEnd:=by
 unfold eq at h
 split at h
 ·cases h
 ·rename_i hb
  split at h
  ·cases h
  ·rename_i ht
   unfold Hz at hb
   unfold Dt at ht
   simp only[TE,not_or] at hb ht
   obtain⟨⟨⟨⟨b1,b2⟩,u⟩,k⟩,c⟩:=hb
   obtain⟨⟨⟨⟨⟨⟨⟨⟨⟨j,t2⟩,t3⟩,t4⟩,t5⟩,g⟩,f⟩,i⟩,t9⟩,d⟩:=ht
   exact⟨by simpa using b1,by simpa using k,fun e=>t4 ((lw _ _).2 e.symm)⟩
variable {k:Nat} {m:ab} {α:Type}
theorem Hv (l:List α) (q:α->Bool) {f:Int->Option (Int⊕(Int⊕Int))} (hb:∀ (i:Nat) (e:α),l[i]?=some e->f (i:Int)=bif q e then some (.inr (.inr (i:Int))) else some (.inl ((i+1:Nat):Int))) (he:f (l.length:Int)=some (.inr (.inl (l.length:Int)))):
  bc f 0=some (match l.findIdx? q with|some j=> .inr ((j:Nat):Int)|none=> .inl (l.length:Int)):=by
 have:∀ (t:List α) (i:Nat),l.drop i=t->i<=l.length->bc f (i:Int)=some (match t.findIdx? q with|some j=> .inr (((i+j:Nat)):Int)|none=> .inl (l.length:Int)):=by
  intro t
  induction t with
  |nil=>
   intro i hd hi
   have:=gU hd hi
   subst this
   rw[b3,he]
   rfl
  |cons e t ih=>
   intro i hd hi
   obtain⟨h1,h2,E⟩:=gH hd
   rw[b3,hb i e h1,List.findIdx?_cons]
   cases hq:q e with
   |true=>simp
   |false=>
    simp only[S7]
    rw[ih (i+1) E h2]
    cases t.findIdx? q with
    |none=>rfl
    |some j=>simp;omega
 have h0:bc f 0=_:=this l 0 rfl (TK _)
 rw[h0]
 cases l.findIdx? q with
 |none=>rfl
 |some j=>simp
theorem Md (l:List α) (q:α->Bool):decide (0<=(match l.findIdx? q with|some j=>((j:Nat):Int)|none=> -1))=l.any q:=by
 cases h:l.findIdx? q with
 |none=>
  rw[List.findIdx?_eq_none_iff] at h
  symm
  have:l.any q=false:=by
   rw[UE]
   intro x hx;rw[h x hx];decide
  rw[this];rfl
 |some j=>
  obtain⟨hj,E, -⟩:=List.findIdx?_eq_some_iff_getElem.1 h
  symm
  have:l.any q=true:=UM.2 ⟨l[j],List.getElem_mem hj,E⟩
  rw[this];simp
theorem xZ (l:List (List UInt8)) (A:FuncId) (T:List DV) (d:List UInt8->Option Bool) (h1:∀ a0 r,d a0=some r->ac Tryz.prog A ([.str a0]++T) (.bool r)) (q:List UInt8->Bool) (Y:∀ t∈l,d t=some (q t)) (hl:l.length<=9223372036854775807):
  dK l A T d h1=some (l.any q):=by
 unfold dK kX;dsimp only
 have hI:eB l A T d h1=some (match l.findIdx? q with|some j=>((j:Nat):Int)|none=> -1):=by
  unfold eB gN;dsimp only
  refine co (Hv l q (fun i e he=> ?_) ?_) ?_
  ·have hi:=cB he
   simp only[br hi,S4,aw,he,SQ,Y e (SW he),bB i oM]
   cases q e<;>rfl
  ·simp only[aB,S7];rfl
  ·cases l.findIdx? q<;>rfl
 rw[hI]
 simp only[SQ,Md]
theorem Iu {α:Type} (c:α->Nat):∀ (l:List α),decide (0<(l.map c).sum)=l.any (fun x=>decide (0<c x))
 |[]=>rfl
 |x::l=>by
  rw[List.any_cons,<-Iu c l,Tc,UY]
  by_cases h:0<c x
  ·simp[h];omega
  ·have:c x=0:=by omega
   simp[this]
theorem x0 {T A:Type} (l:List α) (st:Nat->List α->T) {f:T->Option (T⊕A)} {a:A} {s0:T} (h0:st 0 []=s0) (hb:∀ (i:Nat) (e:α),l[i]?=some e->f (st i (l.take i))=some (.inl (st (i+1) (l.take i++[e])))) (he:f (st l.length l)=some (.inr a)):bc f s0=some a:=by subst h0;exact kb l st hb he
def qJ (m:ab) (t:List UInt8):List UInt8:=t.flatMap fun b=>if ud m b=true then[m.fEscape,b] else[b]
theorem Dm (m:ab) (t:List UInt8) (b:UInt8):qJ m (t++[b])=qJ m t++(if ud m b=true then[m.fEscape,b] else[b]):=by simp[qJ]
theorem Bu (m:ab):∀ (t:List UInt8),(qJ m t).length<=2 * t.length
 |[]=>by simp[qJ]
 |b::t=>by
  have:=Bu m t
  have h:qJ m (b::t)=(if ud m b=true then[m.fEscape,b] else[b])++qJ m t:=by simp[qJ]
  rw[h,SS,ST]
  split<;>simp<;>omega
def iy (m:ab) (n:Nat):Bool:=decide (m.fEscape.toNat=0)&&decide (0<n)
theorem tJ (m:ab) (a b:Nat) (bad:Bool):(bad||iy m a||iy m b)=(bad||iy m (a+b)):=by
 unfold iy
 by_cases h:m.fEscape.toNat=0<;>by_cases ha:0<a<;>by_cases hb:0<b<;>simp[h,ha,hb]<;>omega
theorem Oe (m:ab) (c:Bool) (b:List UInt8) (ps:List dx) (d:List Int) (bad:Bool) (t:List UInt8) (ht:t.length<=1000) (hb:b.length<=137438950000):
  fa ⟨m,c,b,ps,d,bad⟩ t=some ((),⟨m,c,b++qJ m t,ps,d,bad||iy m (iH m t)⟩):=by
 unfold fa te;dsimp only
 refine co (x0 (a:= .inl (m,c,b++qJ m t,ps,d,(bad||iy m (iH m t)),((t.length:Nat):Int))) t (fun i pre=>(m,c,b++qJ m pre,ps,d,(bad||iy m (iH m pre)),((i:Nat):Int))) ?_ (fun i e he=> ?_) ?_) ?_
 ·simp[qJ,iH,iy]
 ·have hi:=cB he
  have hl:=qN he
  have h1:=Bu m (t.take i)
  simp only[br hi,S4,aw,he,SQ,IE,bB i oM,bT]
  simp(disch:=(first|omega|(simp only[SS,ST,S3];omega))) only[bU]
  by_cases Z:ud m e=true
  ·have hd:(bad||iy m (iH m (t.take i))||decide ((m.fEscape.toNat:Int)=0))=(bad||iy m (iH m (t.take i)+1)):=by
    rw[<-tJ]
    congr 1
    unfold iy
    by_cases hz:m.fEscape.toNat=0<;>simp[hz]
   simp only[Z,S4,hd]
   rw[Dm,Du,U4 Z,U4 Z]
   simp
  ·rw[Dm,Du,if_neg Z,if_neg Z]
   simp only[Uh] at Z
   simp only[Z,S7]
   simp
 ·simp only[aB,S7];rfl
 ·rfl
abbrev Iv:=List UInt8×List dx×Bool
variable {w:Iv}
def rR (m:ab) (seg:Int) (w:Iv) (p:EK):Iv:=(w.1++p.mark::qJ m p.t,w.2.1++[⟨seg,p.sp,((w.1.length+1:Nat):Int),((w.1.length+1+(qJ m p.t).length:Nat):Int)⟩],w.2.2||iy m (iH m p.t))
def jl (m:ab) (seg:Int) (w:Iv) (l:List EK):Iv:=l.foldl (rR m seg) w
theorem tK (m:ab) (seg:Int) (w:Iv) (l l2:List EK):jl m seg w (l++l2)=jl m seg (jl m seg w l) l2:=by simp[jl]
def Bw (w:Iv) (k:Nat):Prop:=w.1.length<=500010+2010 * k/\w.2.1.length<=40000000+k
theorem Bw.mono {k':Nat} (h:Bw w k) (hk:k<=k'):Bw w k':=by
 obtain⟨h1,h2⟩:=h;exact⟨by omega,by omega⟩
theorem Bw.step {seg:Int} {p:EK} (h:Bw w k) (Y:p.t.length<=1000):Bw (rR m seg w p) (k+1):=by
 obtain⟨h1,h2⟩:=h
 have h4:=Bu m p.t
 refine⟨?_, ?_⟩<;>simp only[rR,SS,ST,S3]<;>omega
theorem Bw.pts {m:ab} {seg:Int}:∀ {l:List EK} {w:Iv} {k:Nat},Bw w k->zF l->Bw (jl m seg w l) (k+l.length)
 |[],w,k,h,_=>h
 |p::l,w,k,h,ht=>by
  have:=Bw.pts (m:=m) (seg:=seg) (l:=l) (h.step (m:=m) (seg:=seg) (ht p oS)) (fun q hq=>ht q (by simp[hq]))
  rw[show k+(p::l).length=k+1+l.length by simp;omega]
  exact this
abbrev WQ:=List UInt8×List dx×List Int×Bool
def Qo (m:ab) (i:Nat) (w:WQ) (s:aa):Iv:=jl m (i:Int) (w.1++s.fTag,w.2.1,w.2.2.2) (rC m s)
def wM (m:ab) (c:Bool) (i:Nat) (w:WQ) (s:aa):WQ:=((Qo m i w s).1++BN m c,(Qo m i w s).2.1,w.2.2.1++[((w.1.length:Nat):Int)],(Qo m i w s).2.2)
theorem JP (m:ab) (c:Bool) (w:WQ) (i:Nat) (s:aa) (hs:ut s=0) (hb:w.1.length<=499992) (Y:w.2.1.length<=40000000) (n:w.2.2.1.length<=3000):
  ep ⟨m,c,w.1,w.2.1,w.2.2.1,w.2.2.2⟩ (i:Int) s=some ((),⟨m,c,(wM m c i w s).1,(wM m c i w s).2.1,(wM m c i w s).2.2.1,(wM m c i w s).2.2.2⟩):=by
 obtain⟨-,C, -,B,y⟩:=wX hs
 unfold wM Qo
 unfold ep tf;dsimp only
 simp(disch:=(first|omega|(simp only[SS,ST,S3];omega))) only[bU]
 have F:Bw (w.1++s.fTag,w.2.1,w.2.2.2) 0:=⟨by simp only[SS];omega,by simp only;omega⟩
 generalize H:((w.1++s.fTag,w.2.1,w.2.2.2):Iv)=w0 at F⊢
 have e1:w.1++s.fTag=w0.1:=by rw[<-H]
 have e2:w.2.1=w0.2.1:=by rw[<-H]
 have e3:w.2.2.2=w0.2.2:=by rw[<-H]
 rw[e1,e2,e3]
 generalize w.2.2.1++[((w.1.length:Nat):Int)]=d
 refine co (kb (a:= .inl (m,c,(jl m (i:Int) w0 (rC m s)).1,(jl m (i:Int) w0 (rC m s)).2.1,d,(jl m (i:Int) w0 (rC m s)).2.2,((s.fElements.length:Nat):Int))) s.fElements
  (fun e pre=>(m,c,(jl m (i:Int) w0 (c7 (vG m) 0 pre)).1,(jl m (i:Int) w0 (c7 (vG m) 0 pre)).2.1,d,(jl m (i:Int) w0 (c7 (vG m) 0 pre)).2.2,((e:Nat):Int))) (fun e x g=> ?_) ?_) ?_
 ·have he:=cB g
  have u:=qN g
  have M:∀ t∈s.fElements.take e,mr t=0:=fun t ht=>y t (wR ht)
  have N:=(F.pts (m:=m) (seg:=(i:Int)) (Rz (m:=m) M)).mono (k':=e * 400) (by have:=QE (m:=m) M;rw[u] at this;omega)
  rw[vD,tK,u]
  generalize K:jl m (i:Int) w0 (c7 (vG m) 0 (s.fElements.take e))=f at N⊢
  obtain⟨k, -,q⟩:=wW (y x (SW g))
  simp only[br he,S4,aw,g,SQ,bB e oM]
  refine co (kb (a:= .inl (m,c,(jl m (i:Int) f (vG m e x)).1,(jl m (i:Int) f (vG m e x)).2.1,d,(jl m (i:Int) f (vG m e x)).2.2,wY m x.fRepeats.length 0,((x.fRepeats.length:Nat):Int))) x.fRepeats
   (fun r pre=>(m,c,(jl m (i:Int) f (c7 (uu m e) 0 pre)).1,(jl m (i:Int) f (c7 (uu m e) 0 pre)).2.1,d,(jl m (i:Int) f (c7 (uu m e) 0 pre)).2.2,wY m r 0,((r:Nat):Int))) (fun r o j=> ?_) ?_) ?_
  ·have D:=cB j
   have v:=qN j
   have z:∀ t∈x.fRepeats.take r,ya t=0:=fun t ht=>q t (wR ht)
   have O:=(N.pts (m:=m) (seg:=(i:Int)) (Ry (m:=m) (e:=e) z)).mono (k':=e * 400+r * 20) (by have:=RC (m:=m) (e:=e) z;rw[v] at this;omega)
   rw[vD,tK,v]
   generalize L:jl m (i:Int) f (c7 (uu m e) 0 (x.fRepeats.take r))=I at O⊢
   obtain⟨J, -,A⟩:=zE (q o (SW j))
   simp only[br D,S4,aw,j,SQ,bB r oM]
   refine co (kb (a:= .inl (m,c,(jl m (i:Int) I (uu m e r o)).1,(jl m (i:Int) I (uu m e r o)).2.1,d,(jl m (i:Int) I (uu m e r o)).2.2,wY m r o.length,((o.length:Nat):Int))) o
    (fun p pre=>(m,c,(jl m (i:Int) I (c7 (tO m e r) 0 pre)).1,(jl m (i:Int) I (c7 (tO m e r) 0 pre)).2.1,d,(jl m (i:Int) I (c7 (tO m e r) 0 pre)).2.2,wY m r p,((p:Nat):Int))) (fun p t b=> ?_) ?_) ?_
   ·have Y:=cB b
    have E:=qN b
    have Q:∀ t∈o.take p,kd t=0:=fun t ht=>A t (wR ht)
    have P:=(O.pts (m:=m) (seg:=(i:Int)) (Rx (m:=m) (e:=e) (r:=r) Q)).mono (k':=e * 400+r * 20+p) (by have:=RB (m:=m) (e:=e) (r:=r) (l:=o.take p);rw[E] at this;omega)
    rw[vD,tK,E]
    generalize S:jl m (i:Int) I (c7 (tO m e r) 0 (o.take p))=G at P⊢
    obtain⟨T,c2⟩:=P
    have C:=BM (A t (SW b))
    simp only[br Y,S4,aw,b,SQ,bB p oM,bB r oM,bB e oM]
    rw[bU (by simp only[ST,S3];omega)]
    rw[Oe m c (G.1++[wY m r p]) G.2.1 d G.2.2 t C (by simp only[SS,ST,S3];omega)]
    simp only[SQ]
    rw[bU oM]
    have U:jl m (i:Int) G (tO m e r p t)=rR m (i:Int) G ⟨HA e r p,wY m r p,t⟩:=rfl
    rw[U]
    unfold rR
    simp only[HA,S6,Td,S8,SS,ST,S3]
    have R:G.1.length+(0+1)=G.1.length+1:=by omega
    have V:G.1.length+((qJ m t).length+1)=G.1.length+1+(qJ m t).length:=by omega
    rw[V]
    rfl
   ·simp only[aB,S7];rfl
   ·rfl
  ·simp only[aB,S7];rfl
  ·rfl
 ·simp only[aB,S7];rfl
 ·have h:=F.pts (m:=m) (seg:=(i:Int)) (l:=rC m s) (Rz y)
  have h4:=QE (m:=m) y
  have h:=h.mono (k':=20000) (by unfold rC;omega)
  simp only[c3]
  generalize jl m (i:Int) w0 (rC m s)=f at h⊢
  obtain⟨T,c2⟩:=h
  simp(disch:=(first|omega|(simp only[SS,ST,S3];omega))) only[bU]
  cases c with
  |true=>simp[BN]
  |false=>simp[BN]
def uO (m:ab) (c:Bool) (i:Nat) (w:WQ) (s:aa):WQ:=if w.1.length<=499992 then wM m c i w s else(w.1,w.2.1,w.2.2.1,w.2.2.2||iy m (yb m s))
def fT (m:ab) (c:Bool):Nat->WQ->List aa->WQ
 |_,w,[]=>w
 |i,w,s::l=>fT m c (i+1) (uO m c i w s) l
theorem Bv (m:ab) (c:Bool):∀ (l:List aa) (i:Nat) (w:WQ) (s:aa),fT m c i w (l++[s])=uO m c (i+l.length) (fT m c i w l) s
 |[],i,w,s=>rfl
 |x::l,i,w,s=>by
  simp only[Td,fT,Bv m c l (i+1),ST]
  rw[show i+1+l.length=i+(l.length+1) by omega]
theorem F7 (m:ab) (seg:Int):∀ (l:List EK) (w:Iv),(jl m seg w l).2.1.length=w.2.1.length+l.length
 |[],w=>rfl
 |p::l,w=>by
  have:=F7 m seg l (rR m seg w p)
  simp only[jl,US] at this⊢
  rw[this];simp[rR];omega
theorem JQ {c:Bool} {i:Nat} {w:WQ} {s:aa} (hs:ut s=0):(uO m c i w s).2.1.length<=w.2.1.length+20000/\(uO m c i w s).2.2.1.length<=w.2.2.1.length+1:=by
 unfold uO
 split
 ·obtain⟨-, -, -,h2,E⟩:=wX hs
  have h4:=QE (m:=m) E
  simp only[wM,Qo,F7,SS,ST,S3,rC]
  omega
 ·exact⟨by simp only;omega,by simp only;omega⟩
theorem Dn {m:ab} {c:Bool}:∀ {l:List aa} {i:Nat} {w:WQ},(∀ s∈l,ut s=0)->(fT m c i w l).2.1.length<=w.2.1.length+l.length * 20000/\(fT m c i w l).2.2.1.length<=w.2.2.1.length+l.length
 |[],i,w,_=>by simp[fT]
 |s::l,i,w,h=>by
  have h1:=JQ (m:=m) (c:=c) (i:=i) (w:=w) (h s oS)
  have h2:=Dn (m:=m) (c:=c) (l:=l) (i:=i+1) (w:=uO m c i w s) fun x hx=>h x (by simp[hx])
  simp only[fT,ST]
  omega
def w0:WQ:=([],[],[],false)
def Iw (l:List aa) (m:ab) (c:Bool):Option cV×Int:=
 if pi l m≠0 then(none,pi l m) else if(fT m c 0 w0 l).2.2.2=true then(none,3) else if 499992<(fT m c 0 w0 l).1.length then(none,2) else
 (some ⟨m,c,(fT m c 0 w0 l).1,(fT m c 0 w0 l).2.1,(fT m c 0 w0 l).2.2.1,(fT m c 0 w0 l).2.2.2⟩,0)
theorem JR (l:List aa) (m:ab) (c:Bool) (ht:nZ l):oy l m c 499992=some (Iw l m c):=by
 unfold oy tg;dsimp only
 unfold Iw
 simp only[QD l m ht,SQ]
 by_cases h:pi l m=0
 ·rw[if_neg (fun e=>e h)]
  simp only[h,TA,S9,S7]
  have v:et l=0:=by
   unfold pi at h
   split at h
   ·assumption
   ·rename_i h1;exact absurd h h1
  obtain⟨hl,hs⟩:=oG v
  refine co (kb (a:= .inl (m,c,(fT m c 0 w0 l).1,(fT m c 0 w0 l).2.1,(fT m c 0 w0 l).2.2.1,(fT m c 0 w0 l).2.2.2,((l.length:Nat):Int))) l
   (fun i pre=>(m,c,(fT m c 0 w0 pre).1,(fT m c 0 w0 pre).2.1,(fT m c 0 w0 pre).2.2.1,(fT m c 0 w0 pre).2.2.2,((i:Nat):Int))) (fun i s b=> ?_) ?_) ?_
  ·have hi:=cB b
   have s7:=qN b
   have p:=hs s (SW b)
   have I:=Dn (m:=m) (c:=c) (i:=0) (w:=w0) (l:=l.take i) fun s u=>hs s (wR u)
   rw[s7] at I
   rw[Bv,s7,Tx]
   generalize G:fT m c 0 w0 (l.take i)=w at I⊢
   simp only[w0,S3,Tx] at I
   simp only[br hi,S4,aw,b,SQ,bB i oM]
   unfold uO
   by_cases hb:w.1.length<=499992
   ·have d:decide ((w.1.length:Int)<=499992)=true:=UU oM
    rw[U4 hb]
    simp only[d,S4]
    have:=JP m c w i s p hb oM oM
    rw[this]
    rfl
   ·have d:decide ((w.1.length:Int)<=499992)=false:=TZ oM
    rw[if_neg hb]
    simp only[d,S7]
    obtain⟨-, -, -,B,y⟩:=wX p
    refine co (x0 (a:= .inl (m,c,w.1,w.2.1,w.2.2.1,(w.2.2.2||iy m (yb m s)),((s.fElements.length:Nat):Int))) s.fElements
     (fun e pre=>(m,c,w.1,w.2.1,w.2.2.1,(w.2.2.2||iy m ((pre.map (Gg m)).sum)),((e:Nat):Int))) ?_ (fun e x g=> ?_) ?_) ?_
    ·simp[iy]
    ·have he:=cB g
     obtain⟨k, -,q⟩:=wW (y x (SW g))
     rw[Gh g,<-tJ]
     generalize(w.2.2.2||iy m (((s.fElements.take e).map (Gg m)).sum))=bad
     simp only[br he,S4,aw,g,SQ,bB e oM]
     refine co (x0 (a:= .inl (m,c,w.1,w.2.1,w.2.2.1,(bad||iy m (Gg m x)),((x.fRepeats.length:Nat):Int))) x.fRepeats
      (fun r pre=>(m,c,w.1,w.2.1,w.2.2.1,(bad||iy m ((pre.map (EI m)).sum)),((r:Nat):Int))) ?_ (fun r o j=> ?_) ?_) ?_
     ·simp[iy]
     ·have D:=cB j
      obtain⟨J, -,A⟩:=zE (q o (SW j))
      rw[Gh j,<-tJ]
      generalize(bad||iy m (((x.fRepeats.take r).map (EI m)).sum))=n
      have hc:=xZ o 79 [DV.ptr (aq m)] (fun a0=>mN a0 m) (fun a0 r h=>nC a0 m r h) (fun t=>decide (0<iH m t)) (fun t ht=>by
       have C:=BM (A t ht)
       unfold mN kX;dsimp only
       rw[Mz m t oM]
       simp only[SQ]
       congr 1
       simp) oM
      simp only[br D,S4,aw,j,SQ,bB r oM,cx,bT]
      rw[hc]
      simp only[SQ,cx,bT]
      have U:(n||(decide ((m.fEscape.toNat:Int)=0)&&o.any fun t=>decide (0<iH m t)))=(n||iy m (EI m o)):=by
       unfold iy EI
       rw[Iu]
       congr 2
       congr 1
       apply propext
       omega
      rw[U]
     ·simp only[aB,S7];rfl
     ·rfl
    ·simp only[aB,S7];rfl
    ·rfl
  ·simp only[aB,S7];rfl
  ·simp only[c3]
   generalize fT m c 0 w0 l=w
   cases f:w.2.2.2 with
   |true=>rfl
   |false=>
    simp only[S7,Tb,Tq]
    by_cases hb:499992<w.1.length
    ·have d:decide ((499992:Int)<(w.1.length:Int))=true:=UU oM
     rw[U4 hb];simp only[d,S4]
    ·have d:decide ((499992:Int)<(w.1.length:Int))=false:=TZ oM
     rw[if_neg hb];simp only[d,S7]
 ·rw[U4 h]
  simp only[h,UO,Tm,S4]
variable {m:ab} {s:aa}
def Of (q:iw):Option dx:=if q.fat.fElement=0 then none else some ⟨q.fsegment,q.fat,q.ffrom,q.fto⟩
def Og (q:iw):Option Int:=if q.fat.fElement=0 then some q.fbegin else none
def oB (m:ab) (n:Nat):Prop:=m.fEscape.toNat≠0\/n=0
theorem Me {t:List UInt8} (h:oB m (iH m t)):qP m t=qJ m t:=by
 induction t with
 |nil=>rfl
 |cons b t ih=>
  have h1:iH m (b::t)=iH m t+(if ud m b=true then 1 else 0):=by simp[iH,List.countP_cons]
  have h2:qP m (b::t)=(if ud m b=true/\m.fEscape.toNat≠0 then[m.fEscape,b] else[b])++qP m t:=by simp[qP]
  have E:qJ m (b::t)=(if ud m b=true then[m.fEscape,b] else[b])++qJ m t:=by simp[qJ]
  rw[h2,E]
  rcases h with h|h
  ·rw[ih (.inl h)]
   by_cases Z:ud m b=true<;>simp[Z,h]
  ·rw[h1] at h
   by_cases Z:ud m b=true
   ·rw[U4 Z] at h;omega
   ·rw[if_neg Z] at h
    rw[ih (.inr oM)]
    simp[Z]
def EC (w:Iv) (r:RT) (d:List Int):Prop:=w.1=r.1/\r.2.1.filterMap Of=w.2.1/\r.2.1.filterMap Og=d
theorem Oh:∀ p∈rC m s,p.sp.fElement≠0:=by
 unfold rC
 refine nX fun e x hx=> ?_
 unfold vG
 refine nX fun r l hl=> ?_
 unfold uu
 refine nX fun p t ht y hy=> ?_
 simp only[tO,Tj] at hy
 subst hy
 show((e+1:Nat):Int)≠0
 omega
theorem EC.pts {m:ab} {seg:Int} {d:List Int}:∀ {l:List EK} {w:Iv} {r:RT},EC w r d->(∀ p∈l,p.sp.fElement≠0)->(∀ p∈l,oB m (iH m p.t))->EC (jl m seg w l) (Gi m seg r l) d
 |[],w,r,h,_,_=>h
 |p::l,w,r,h,h1,h2=>by
  refine EC.pts (l:=l) (w:=rR m seg w p) (r:=uP m seg r p) ?_ (fun q hq=>h1 q (by simp[hq])) fun q hq=>h2 q (by simp[hq])
  obtain⟨e1,e2,e3⟩:=h
  have Y:=h1 p oS
  have he:=Me (h2 p oS)
  refine⟨?_, ?_, ?_⟩
  ·simp only[rR,uP,e1,he]
  ·simp only[rR,uP,U6,e2,Vc,List.filterMap_nil,Of,Y,Tq,e1,he]
  ·simp only[uP,U6,e3,Vc,List.filterMap_nil,Og,Y,Tq,Tg]
theorem ua {α:Type} {c:α->Nat}:∀ {l:List α} {x:α},x∈l->c x<=(l.map c).sum
 |y::l,x,h=>by
  rcases Tf.1 h with rfl|h
  ·simp
  ·have:=ua (c:=c) h
   simp only[Tc,UY];omega
theorem oB.le {a b:Nat} (h:oB m b) (g:a<=b):oB m a:=by
 rcases h with h|h
 ·exact .inl h
 ·exact .inr oM
theorem Oi (h:oB m (yb m s)):∀ p∈rC m s,oB m (iH m p.t):=fun p Y=>h.le (by
 rw[<-Gk]
 exact ua (c:=fun p:EK=>iH m p.t) Y)
theorem EC.seg {m:ab} {c:Bool} {i:Nat} {w:WQ} {r:RT} {s:aa} (h:EC (w.1,w.2.1,w.2.2.2) r w.2.2.1) (hc:oB m (yb m s)):
  EC ((wM m c i w s).1,(wM m c i w s).2.1,(wM m c i w s).2.2.2) (Gj m c i r s) (wM m c i w s).2.2.1:=by
 obtain⟨e1,e2,e3⟩:=h
 simp only at e1 e2 e3
 have h1:EC (w.1++s.fTag,w.2.1,w.2.2.2) (uQ r i s) (w.2.2.1++[((w.1.length:Nat):Int)]):=by
  refine⟨?_, ?_, ?_⟩
  ·simp only[uQ,e1]
  ·simp only[uQ,U6,e2,Vc,List.filterMap_nil,Of,TB,Tg]
  ·simp only[uQ,U6,e3,Vc,List.filterMap_nil,Og,TB,e1]
 obtain⟨A,C,O⟩:=h1.pts (m:=m) (seg:=(i:Int)) (l:=rC m s) Oh (Oi hc)
 exact⟨by simp only[wM,Gj,Qo];rw[A],C,O⟩
theorem Do (m:ab) (seg:Int):∀ (l:List EK) (w:RT),w.1.length<=(Gi m seg w l).1.length
 |[],w=>SZ _
 |p::l,w=>by
  have:=Do m seg l (uP m seg w p)
  have h2:w.1.length<=(uP m seg w p).1.length:=by simp only[uP,SS];omega
  simp only[Gi,US] at this⊢
  omega
theorem JS (m:ab) (c:Bool) (i:Nat) (w:RT) (s:aa):w.1.length<=(Gj m c i w s).1.length:=by
 have:=Do m (i:Int) (rC m s) (uQ w i s)
 have h2:w.1.length<=(uQ w i s).1.length:=by simp only[uQ,SS];omega
 simp only[Gj,SS]
 omega
def Qp (w:WQ) (r:RT):Prop:=(w.1.length<=499992/\EC (w.1,w.2.1,w.2.2.2) r w.2.2.1)\/(499992<w.1.length/\499992<r.1.length)
theorem F8 {m:ab} {c:Bool}:∀ {l:List aa} {i:Nat} {w:WQ} {r:RT},Qp w r->oB m (qO m l)->Qp (fT m c i w l) (BO m c i r l)
 |[],i,w,r,h,_=>h
 |s::l,i,w,r,h,hc=>by
  have hs:qO m (s::l)=yb m s+qO m l:=by simp[qO]
  rw[hs] at hc
  simp only[fT,BO]
  refine F8 (l:=l) ?_ (hc.le oM)
  rcases h with⟨h1,h2⟩|⟨h1,h2⟩
  ·have E:=h2.seg (c:=c) (i:=i) (hc.le (show yb m s<=_ by omega))
   unfold uO
   rw[U4 h1]
   by_cases hb:(wM m c i w s).1.length<=499992
   ·exact .inl ⟨hb,E⟩
   ·refine .inr ⟨by omega, ?_⟩
    rw[<-E.1]
    simp only
    omega
  ·have E:=JS m c i r s
   unfold uO
   rw[if_neg oM]
   exact .inr ⟨h1,by omega⟩
theorem F9 (m:ab) (seg:Int):∀ (l:List EK) (w:Iv),(jl m seg w l).2.2=(w.2.2||iy m ((l.map fun p=>iH m p.t).sum))
 |[],w=>by simp[jl,iy]
 |p::l,w=>by
  have:=F9 m seg l (rR m seg w p)
  simp only[jl,US] at this⊢
  rw[this]
  simp only[rR,Tc,UY,tJ]
theorem Dp (m:ab) (c:Bool):∀ (l:List aa) (i:Nat) (w:WQ),(fT m c i w l).2.2.2=(w.2.2.2||iy m (qO m l))
 |[],i,w=>by simp[fT,qO,iy]
 |s::l,i,w=>by
  simp only[fT]
  rw[Dp m c l (i+1)]
  have hs:qO m (s::l)=yb m s+qO m l:=by simp[qO]
  rw[hs,<-tJ]
  congr 1
  unfold uO
  split
  ·simp only[wM,Qo,F9,Gk]
  ·rfl
def x3 (m:ab) (c:Bool) (l:List aa):RT:=BO m c 0 ([],[],0) l
def qK (l:List aa) (m:ab) (c:Bool):Int:=
 if pi l m≠0 then pi l m else if iy m (qO m l)=true then 3 else if 499992<(x3 m c l).1.length then 2 else 0
theorem Qq (l:List aa) (m:ab) (c:Bool):
  ∃ pl d,(qK l m c=0->(x3 m c l).2.1.filterMap Of=pl/\(x3 m c l).2.1.filterMap Og=d)/\
   Iw l m c=if qK l m c=0 then(some ⟨m,c,(x3 m c l).1,pl,d,false⟩,0) else(none,qK l m c):=by
 refine⟨(fT m c 0 w0 l).2.1,(fT m c 0 w0 l).2.2.1, ?_⟩
 unfold Iw qK
 by_cases h:pi l m=0
 ·simp only[h,ne_eq,not_true_eq_false,Tq]
  have f:=Dp m c l 0 w0
  have f:(fT m c 0 w0 l).2.2.2=iy m (qO m l):=by rw[f];simp[w0]
  rw[f]
  cases hb:iy m (qO m l) with
  |true=>simp
  |false=>
   simp only[Tb,Tq]
   have hc:oB m (qO m l):=by
    unfold iy at hb
    by_cases hz:m.fEscape.toNat=0
    ·simp[hz] at hb;exact .inr hb
    ·exact .inl hz
   have h0:Qp w0 (([],[],0):RT):= .inl ⟨by simp[w0],rfl,rfl,rfl⟩
   have hB:=F8 (c:=c) (i:=0) h0 hc
   rcases hB with⟨h1,h2,E,h4⟩|⟨h1,h2⟩
   ·simp only at h2
    have h5:¬ 499992<(x3 m c l).1.length:=by unfold x3;rw[<-h2];omega
    have h6:¬ 499992<(fT m c 0 w0 l).1.length:=by omega
    simp only[h5,h6,Tq]
    refine⟨fun _=>⟨E,h4⟩, ?_⟩
    simp only[TB]
    unfold x3
    rw[<-h2]
   ·have h5:499992<(x3 m c l).1.length:=h2
    simp only[h1,h5,TB]
    exact⟨fun e=>absurd e oD,rfl⟩
 ·simp only[ne_eq,h,not_false_eq_true,TB,Tq]
  exact⟨fun e=>e.elim,trivial⟩
variable {acc:List aj} {k:UInt8} {m:ab} {p:List bt} {q r:bt} {res:bt⊕(List aj×bt)} {t:bt} {xs:List (List bt)}
def n6 (m:ab) (k:UInt8) (t:bt):bt:=k::qP m t
def uX (m:ab) (k:UInt8):List bt->bt
 |[]=>[]
 |t::ps=>n6 m k t++ps.flatMap (n6 m m.fPart)
def me (m:ab):List (List bt)->bt
 |[]=>[]
 |p::xs=>uX m m.fElement p++xs.flatMap (uX m m.fRepeat)
def rV (m:ab) (l:List aj):bt:=l.flatMap fun e=>me m e.fRepeats
def I1 (m:ab) (c:Bool) (s:aa):bt:=s.fTag++rV m s.fElements++BN m c
def iL (m:ab) (c:Bool) (l:List aa):bt:=l.flatMap (I1 m c)
theorem q0 {α β b:Type} {f:Nat->α->List β} {g:β->List b} {c:α->List b} {i0:Nat} (h:∀ i e,i0<=i->(f i e).flatMap g=c e):∀ (l:List α) (i:Nat),i0<=i->(c7 f i l).flatMap g=l.flatMap c
 |[],_,_=>rfl
 |x::l,i,hi=>by simp only[c7,UV,h i x hi,q0 h l (i+1) oM,Tu]
def zP (m:ab) (p:EK):bt:=p.mark::qP m p.t
theorem KM (m:ab) (e r:Nat) (l:List bt):(uu m e r l).flatMap (zP m)=uX m (if 0<r then m.fRepeat else m.fElement) l:=by
 unfold uu
 cases l with
 |nil=>rfl
 |cons t ps=>
  have h1:(c7 (tO m e r) 1 ps).flatMap (zP m)=ps.flatMap (n6 m m.fPart):=q0 (i0:=1) (fun i t hi=>by
   simp only[tO,Tu,List.flatMap_nil,Tg,zP,n6,wY,U4 (show 0<i by omega)]) ps 1 (SZ _)
  show(c7 (tO m e r) 0 (t::ps)).flatMap (zP m)=_
  simp only[c7,UV,Tx,h1,uX]
  simp[tO,zP,n6,wY]
theorem PB (m:ab) (e:Nat) (x:aj):(vG m e x).flatMap (zP m)=me m x.fRepeats:=by
 unfold vG
 cases h:x.fRepeats with
 |nil=>rfl
 |cons p xs=>
  have h1:(c7 (uu m e) 1 xs).flatMap (zP m)=xs.flatMap (uX m m.fRepeat):=q0 (i0:=1) (fun i t hi=>by
   rw[KM,U4 (show 0<i by omega)]) xs 1 (SZ _)
  show(c7 (uu m e) 0 (p::xs)).flatMap (zP m)=_
  simp only[c7,UV,Tx,h1,me,KM,Nat.lt_irrefl,Tq]
theorem PC (m:ab) (s:aa):(rC m s).flatMap (zP m)=rV m s.fElements:=by
 unfold rC rV
 exact q0 (i0:=0) (fun i t _=>PB m i t) _ 0 (SZ _)
theorem GC {n:Nat} (h:iy m n=false):oB m n:=by
 unfold iy at h
 by_cases hz:m.fEscape.toNat=0
 ·simp[hz] at h;exact .inr h
 ·exact .inl hz
def zQ (m:ab) (t:bt):Prop:=m.fEscape.toNat≠0\/iH m t=0
theorem xh (m:ab) (b:UInt8) (t:bt):qP m (b::t)=(if ud m b=true/\m.fEscape.toNat≠0 then[m.fEscape,b] else[b])++qP m t:=by simp[qP]
theorem zR (m:ab) (x:UInt8):rW m x=true↔m.fEscape.toNat≠0/\x=m.fEscape:=by
 unfold rW
 simp only[SR,TI,Tk,S5]
 constructor
 ·rintro⟨h1,h2⟩;exact⟨by omega,Up.1 oM⟩
 ·rintro⟨h1,h2⟩;exact⟨by omega,by rw[h2]⟩
theorem KN {x:UInt8} (h:rW m x=true):ud m x=true:=by
 unfold rW at h
 unfold ud
 rw[h,Bool.or_true]
theorem xi (m:ab) (b:UInt8) (t:bt):iH m (b::t)=iH m t+if ud m b=true then 1 else 0:=by simp[iH,List.countP_cons]
theorem GD (m:ab):∀ (n:Nat) (r:bt),r.length<=n->∀ t q,cQ m r= .inr (t,q)->r=qP m t++q/\zQ m t
 |n,[],_,t,q,h=>by rw[cQ] at h;cases h
 |0,x::r,h,_,_,_=>by simp at h
 |n+1,x::r,hn,t,q,h=>by
  have D:r.length<=n:=by simpa using hn
  unfold cQ at h
  split at h
  ·rename_i he
   obtain⟨hz,hx⟩:=(zR m x).1 he
   cases r with
   |nil=>cases h
   |cons y r=>
    simp only at h
    split at h
    ·rename_i hy
     cases Y:cQ m r with
     |inl p=>rw[Y] at h;cases h
     |inr a=>
      obtain⟨o,p⟩:=a
      rw[Y] at h
      obtain⟨h1,h2⟩:=GD m n r (by simp at D;omega) o p Y
      cases h
      refine⟨?_,.inl hz⟩
      rw[xh,U4 ⟨hy,hz⟩,h1,hx]
      simp
    ·cases h
  ·split at h
   ·cases h;exact⟨rfl,.inr rfl⟩
   ·rename_i Z
    split at h
    ·cases h
    ·cases Y:cQ m r with
     |inl p=>rw[Y] at h;cases h
     |inr a=>
      obtain⟨o,p⟩:=a
      rw[Y] at h
      obtain⟨h1,h2⟩:=GD m n r D o p Y
      cases h
      refine⟨?_, ?_⟩
      ·rw[xh,if_neg (fun h=>Z h.1),h1];simp
      ·unfold zQ at h2⊢
       rw[xi,if_neg Z]
       exact h2
theorem zr (h:cQ m r= .inr (t,q)):r=qP m t++q/\zQ m t:=GD m r.length r (SZ _) t q h
theorem GE {y:UInt8} (h1:ud m y=true) (h2:rW m y=false) (E:¬ (y=m.fElement\/y=m.fEnd)):y=m.fRepeat\/y=m.fPart:=by
 have e:∀ b:UInt8,decide ((y.toNat:Int)=(b.toNat:Int))=true->y=b:=fun b h=>Up.1 (by have:=UT h;omega)
 unfold ud at h1
 unfold rW at h2
 rw[h2,Bool.or_false] at h1
 simp only[TE] at h1
 rcases h1 with((h|h)|h)|h
 ·exact absurd (.inl (e _ h)) E
 ·exact .inr (e _ h)
 ·exact .inl (e _ h)
 ·exact absurd (.inr (e _ h)) E
theorem I2 (h:k=m.fRepeat\/xs≠[]):∃ ys p,la m k xs t=ys++[p++[t]]:=by
 unfold la
 split
 ·exact⟨xs,[],gG xs [] t⟩
 ·rename_i hk
  rcases h with h|h
  ·exact absurd h hk
  ·have:=UK h
   refine⟨xs.dropLast,xs.getLast h, ?_⟩
   rw[<-gG,this]
theorem I3 (m:ab) {ys:List (List bt)} (h:ys≠[]) (t:bt):me m (ys++[[t]])=me m ys++n6 m m.fRepeat t:=by
 cases ys with
 |nil=>exact absurd rfl h
 |cons y ys=>simp[me,uX]
theorem CF (m:ab) (k:UInt8) (h:p≠[]) (t:bt):uX m k (p++[t])=uX m k p++n6 m m.fPart t:=by
 cases p with
 |nil=>exact absurd rfl h
 |cons y ys=>simp[uX]
theorem GF (m:ab) (ys:List (List bt)) (h:p≠[]) (t:bt):me m (ys++[p++[t]])=me m (ys++[p])++n6 m m.fPart t:=by
 cases ys with
 |nil=>simp[me,CF m m.fElement h]
 |cons y ys=>simp[me,CF m m.fRepeat h]
theorem R4 {res:bt⊕(List (List bt)×bt)} (h:Fb m k xs r res) (c:m.fPart≠m.fRepeat):∀ (P:bt),(k=m.fRepeat\/xs≠[])->(∀ t,me m (la m k xs t)=P++qP m t)->∀ h8 q',res= .inr (h8,q')->P++r=me m h8++q':=by
 induction h with
 |bad=>intro _ _ _ _ _ h;cases h
 |fin Y hy=>
  intro P hk hP h8 q' h
  cases h
  rw[hP,(zr Y).1,S6]
 | @more k xs r t y q res Y hy _ ih=>
  intro P hk hP h8 q' h
  have a:y=m.fRepeat\/y=m.fPart:=by
   obtain⟨_,_,y',t',e,h1,h2⟩:=mA Y
   cases e
   exact GE h1 h2 hy
  have:=ih (me m (la m k xs t)++[y]) (.inr (HW hk)) (fun t'=> ?_) h8 q' h
  ·rw[<-this,hP,(zr Y).1];simp
  ·obtain⟨ys,p,e⟩:=I2 (t:=t) hk
   rw[e]
   rcases a with rfl|rfl
   ·unfold la
    rw[U4 rfl,gG,S8,I3 m oS]
    simp[n6]
   ·unfold la
    rw[if_neg c,gG,GF m ys oS]
    simp[n6]
def zS (m:ab) (xs:List (List bt)):Prop:=∀ p∈xs,∀ t∈p,zQ m t
theorem E4 (h:zS m xs) (ht:zQ m t):zS m (DJ xs t):=by
 by_cases h0:xs=[]
 ·subst h0;exact h
 ·rw[<-UK h0,gG]
  rw[<-UK h0] at h
  intro p Y u hu
  rcases Te.1 Y with Y|Y
  ·exact h p (TT _ Y) u hu
  ·have Y:=Tj.1 Y
   subst Y
   rcases Te.1 hu with hu|hu
   ·exact h _ (List.mem_append_right _ (Tj.2 rfl)) u hu
   ·rw[Tj.1 hu];exact ht
theorem E5 (h:zS m xs) (ht:zQ m t):zS m (la m k xs t):=by
 unfold la
 split
 ·refine E4 (fun p Y u hu=> ?_) ht
  rcases Te.1 Y with Y|Y
  ·exact h p Y u hu
  ·rw[Tj.1 Y] at hu;cases hu
 ·exact E4 h ht
theorem PD {res:bt⊕(List (List bt)×bt)} (h:Fb m k xs r res):zS m xs->∀ h8 q',res= .inr (h8,q')->zS m h8:=by
 induction h with
 |bad=>intro _ _ _ h;cases h
 |fin Y hy=>intro hx h8 q' h;cases h;exact E5 hx (zr Y).2
 |more Y hy _ ih=>exact fun hx=>ih (E5 hx (zr Y).2)
theorem Q5 (c:m.fPart≠m.fRepeat) (h:vR m acc r res):(∀ e∈acc,zS m e.fRepeats)->∀ a q',res= .inr (a,q')->rV m acc++r=rV m a++q'/\∀ e∈a,zS m e.fRepeats:=by
 induction h with
 |fin hy=>intro ha _ _ h;cases h;exact⟨rfl,ha⟩
 |bad he=>intro _ _ _ h;cases h
 | @more acc q xs q' res he _ ih=>
  intro ha a W h
  have h1:=R4 he c [m.fElement] (.inl rfl) (fun t=>by
   unfold la
   rw[U4 rfl,gG [] [] t]
   simp[me,uX,n6]) _ _ rfl
  obtain⟨h2,E⟩:=ih (fun e g=>by
   rcases Te.1 g with h|h
   ·exact ha e h
   ·rw[Tj.1 h];exact PD he (fun _ h=>by cases h) _ _ rfl) a W h
  refine⟨?_,E⟩
  have e:rV m (acc++[⟨xs⟩])=rV m acc++me m xs:=by simp[rV]
  rw[<-h2,e,S6,<-h1];rfl
theorem PE (h:Nr m acc r res):∀ a q',res= .inr (a,q')->∃ q,q'=m.fEnd::q:=by
 induction h with
 |fin=>intro _ _ h;cases h;exact⟨_,rfl⟩
 |bad _ _=>intro _ _ h;cases h
 |more _ _ _ ih=>exact ih
theorem Q6 (c:m.fPart≠m.fRepeat) (hE:m.fElement≠m.fEnd) {s:aa} (h:ui m r (.inr (s,q))):r=s.fTag++(rV m s.fElements++m.fEnd::q)/\(∀ e∈s.fElements,zS m e.fRepeats)/\nq s.fTag=true:=by
 cases h with
 |ok ht he=>
  obtain⟨h1,⟨f,b,h2,E⟩,h4⟩:=n7 ht
  have C:=PH hE he (fun y q h=>by rw[h2] at h;cases h;exact E)
  obtain⟨q3,hq⟩:=PE C _ _ rfl
  obtain⟨h5,h6⟩:=Q5 c he (fun _ h=>by cases h) _ _ rfl
  rw[TG] at hq
  rw[hq.1] at h5
  refine⟨?_,h6,h4⟩
  rw[h1]
  congr 1
theorem HV (c:m.fPart≠m.fRepeat) (hE:m.fElement≠m.fEnd) {out:List aa} {ln:Bool} {res:bt⊕(List aa×Bool)} (h:n8 m out ln r res):∀ x p,res= .inr (x,p)->(out≠[]->p=ln)/\∃ ys,x=out++ys/\r=iL m p ys/\(∀ s∈ys,∀ e∈s.fElements,zS m e.fRepeats):=by
 induction h with
 |nil=>intro x p h;cases h;exact⟨fun _=>rfl,[],by simp,rfl,fun _ h=>by cases h⟩
 |bad=>intro _ _ h;cases h
 |stop=>intro _ _ h;cases h
 | @more out ln r s q res h0 hs hc _ ih=>
  intro x p h
  obtain⟨h1,ys,h2,E,h4⟩:=ih x p h
  have Y:p=e4 q:=h1 oS
  obtain⟨h5,h6, -⟩:=Q6 c hE hs
  refine⟨fun ho=> ?_,s::ys,by rw[h2];simp, ?_, ?_⟩
  ·rcases hc with hc|hc
   ·exact absurd hc ho
   ·rw[Y,hc]
  ·have e:q=(if p=true then[10] else[])++iL m p ys:=by
    rw[<-E]
    split
    ·rename_i h8
     rw[Y] at h8
     rw[U4 h8]
     exact sA h8
    ·rename_i h8
     rw[Y] at h8
     rw[if_neg h8];rfl
   rw[h5,iL,Tu,I1]
   conv=>lhs;rw[e]
   cases p<;>simp[BN,iL]
  ·intro t ht
   rcases Tf.1 ht with rfl|ht
   ·exact h6
   ·exact h4 t ht
variable {b:List UInt8} {m:ab}
theorem HC (h:kc [77,82,75] b 0=none):∃ t,b=77::82::75::t:=by
 match b,h with
 |[],h=>simp[kc] at h
 |x::b,h=>
  simp only[kc] at h
  by_cases hx:x=77
  ·rw[U4 hx] at h
   match b,h with
   |[],h=>simp[kc] at h
   |y::b,h=>
    simp only[kc] at h
    by_cases hy:y=82
    ·rw[U4 hy] at h
     match b,h with
     |[],h=>simp[kc] at h
     |z::b,h=>
      simp only[kc] at h
      by_cases hz:z=75
      ·exact⟨b,by rw[hx,hy,hz]⟩
      ·rw[if_neg hz] at h;cases h
    ·rw[if_neg hy] at h;cases h
  ·rw[if_neg hx] at h;cases h
theorem Gl {i:Int} (h:mq b=(m,i,0)):eq m=0/\b=ft m++b.drop 8:=by
 cases hh:kc [77,82,75] b 0 with
 |some k=>unfold mq at h;rw[hh] at h;simp at h
 |none=>
  by_cases h8:b.length<8
  ·rw[yO h8 hh] at h;simp at h
  ·obtain⟨t0,d⟩:=HC hh
   obtain⟨a0,M,a2,a,p,r,e,z,t,rfl⟩:=ID h8
   simp only[TG] at d
   obtain⟨rfl,rfl,rfl,_⟩:=d
   rw[vF rfl hh] at h
   unfold mq.mk at h
   by_cases he:e=0
   ·rw[U4 he] at h;simp at h
   ·rw[if_neg he] at h
    by_cases Z:eq ⟨a,p,r,if e=32 then 0 else e,z⟩=0
    ·rw[U4 Z] at h
     simp only[SU] at h
     obtain⟨rfl,_⟩:=h
     refine⟨Z, ?_⟩
     have:(if(if e=32 then(0:UInt8) else e)=0 then(32:UInt8) else(if e=32 then 0 else e))=e:=by
      by_cases c:e=32
      ·rw[U4 c,U4 rfl,c]
      ·rw[if_neg c,if_neg he]
     show _=77::82::75::a::p::r::(if(if e=32 then(0:UInt8) else e)=0 then(32:UInt8) else(if e=32 then 0 else e))::z::t
     rw[this]
    ·rw[if_neg Z] at h
     simp only[SU] at h
     exact absurd h.2.2 Z
theorem MC (m:ab) (seg:Int):∀ (l:List EK) (w:RT),(Gi m seg w l).1=w.1++l.flatMap (zP m)
 |[],w=>by simp[Gi]
 |p::l,w=>by
  show(Gi m seg (uP m seg w p) l).1=_
  rw[MC m seg l]
  simp[uP,zP]
theorem QH (m:ab) (c:Bool) (i:Nat) (w:RT) (s:aa):(Gj m c i w s).1=w.1++I1 m c s:=by
 unfold Gj
 simp only[MC,PC,uQ,I1,S6]
theorem IG (m:ab) (c:Bool):∀ (l:List aa) (i:Nat) (w:RT),(BO m c i w l).1=w.1++iL m c l
 |[],i,w=>by simp[BO,iL]
 |s::l,i,w=>by
  show(BO m c (i+1) (Gj m c i w s) l).1=_
  rw[IG m c l,QH]
  simp[iL]
theorem MD (c:m.fPart≠m.fRepeat) (hE:m.fElement≠m.fEnd) {b:bt} {x:List aa} {p:Bool} {st:List Int} (hb:n8 m [] false b (.inr (x,p))) (h:PJ m b (.inr (x,p)) st) {k:Nat} {n:Int} (hk:st[k]?=some n) (hx:k<=x.length):n=((iL m p (x.take k)).length:Int):=by
 obtain⟨j,out,ln,e1,e2,e3,hc⟩:=h k n hk
 obtain⟨_,ys,A,C,_⟩:=HV c hE hc x p rfl
 obtain⟨_,zs,g1,g2,_⟩:=HV c hE hb x p rfl
 rw[S8] at g1
 subst g1
 have ht:x.take k=out:=by rw[A,<-e3];simp
 have h1:=TX List.length C
 have h2:=TX List.length g2
 rw[TQ] at h1
 have E:iL m p x=iL m p out++iL m p ys:=by rw[A];simp[iL]
 rw[E,SS] at h2
 rw[ht,e1]
 omega
end Go.Proofs.YtgmnipfafmphaaaGreatDoor
