/-
  Laws on the way to the theorem.
-/
import Derived.Test.YtgmnipfafmphaaaGreatDoorBX10
import Derived.Test.YtgmnipfafmphaaaGreatDoorBX11
import Derived.Lib.IndexAny
import Derived.Test.YtgmnipfafmphaaaGreatDoorSXEngN

namespace Go.Proofs.YtgmnipfafmphaaaGreatDoor
section
open Go.RowKit
set_option linter.unusedSimpArgs false
set_option linter.unusedVariables false
def e9 (b:UInt8):Bool:= !(decide ((b.toNat:Int)<33)||decide (126<(b.toNat:Int))||decide ((b.toNat:Int)=46)||decide ((b.toNat:Int)=45)||decide ((b.toNat:Int)=43)||decide ((b.toNat:Int)=95))&& !(decide (65<=(b.toNat:Int))&&decide ((b.toNat:Int)<=90)||decide (97<=(b.toNat:Int))&&decide ((b.toNat:Int)<=122)||decide (48<=(b.toNat:Int))&&decide ((b.toNat:Int)<=57))
theorem Ql (c d:Bool):(bif c then some false else some (!d))=some (!c&& !d):=by cases c<;>rfl
theorem SA (b:UInt8):lc b=some (e9 b):=by
 unfold lc cQ;dsimp only
 simp only[bx,aO,Vh,e9]
 exact Ql _ _
theorem FV {α R:Type} (l:List α) (h:α->Option R) {f:Int->Option (Int⊕(Int⊕R))} (hb:∀ (i:Nat) (e:α),l[i]?=some e->f (i:Int)=(match h e with|some a=>some (.inr (.inr a))|none=>some (.inl ((i+1:Nat):Int)))) (he:f (l.length:Int)=some (.inr (.inl (l.length:Int)))):bn f 0=some (match l.findSome? h with|some a=> .inr a|none=> .inl (l.length:Int)):=by
 have:∀ (t:List α) (i:Nat),l.drop i=t->i<=l.length->bn f (i:Int)=some (match t.findSome? h with|some a=> .inr a|none=> .inl (l.length:Int)):=by
  intro t
  induction t with
  |nil=>
   intro i hd hi
   have:i=l.length:=by have:=Wf List.length hd;simp at this;omega
   subst this
   rw[bS,he]
   rfl
  |cons e t ih=>
   intro i hd hi
   have h1:l[i]?=some e:=by
    have:=Wf (fun q=>q[0]?) hd
    simpa using this
   have h2:i<l.length:=by
    rcases VR i l.length with h|h
    ·exact h
    ·rw[WM h] at hd;cases hd
   have E:l.drop (i+1)=t:=by
    have:=Wf List.tail hd
    simpa using this
   rw[bS,hb i e h1,XD]
   cases h e with
   |some a=>rfl
   |none=>exact ih (i+1) E h2
 exact this l 0 rfl (V0 _)
theorem yK (l:List UInt8) (lo hi:UInt8) (hl:l.length<9223372036854775807):m_ l lo hi=some (match l.findSome? fun x=>if(decide ((x.toNat:Int)<(lo.toNat:Int))||decide ((hi.toNat:Int)<(x.toNat:Int)))=true then some false else none with|some b=>b|none=>true):=by
 unfold m_ cQ;dsimp only
 refine dO (FV l (fun x=>if(decide ((x.toNat:Int)<(lo.toNat:Int))||decide ((hi.toNat:Int)<(x.toNat:Int)))=true then some false else none) (fun i e h=> ?_) ?_) ?_
 ·obtain⟨h5, -⟩:=Vr.1 h
  simp only[aX h5,Vo,am,h,Vh,bx,aW i oM]
  cases(decide ((e.toNat:Int)<(lo.toNat:Int))||decide ((hi.toNat:Int)<(e.toNat:Int)))<;>rfl
 ·simp only[aB,Vn];rfl
 ·cases l.findSome? _<;>rfl
theorem L0 (b:UInt8) (h:b.toNat<128):(Utf8.encode (b.toNat:Int)).data.toList=[b]:=by
 have:∀ n:Fin 128,(Utf8.encode ((n.1:Nat):Int)).data.toList=[UInt8.ofNat n.1]:=by decide
 have:=this ⟨b.toNat,h⟩
 rw[this]
 simp
def xb:List UInt8:=[65,66,67,68,69,70,71,72,73,74,75,76,77,78,79,80,81,82,83,84,85,86,87,88,89,90,48,49,50,51,52,53,54,55,56,57]
theorem rp (l:List UInt8) (hl:l.length<=9223372036854775807):ls l=some (decide (Lib.trimS l xb=[])):=by
 unfold ls cQ;dsimp only
 have:gS l xb=some (Lib.trimS l xb):=by unfold gS;rw[Wy ⟨hl,by decide,by decide⟩]
 simp only[xb] at this⊢
 rw[this]
 rfl
def TJ (b:UInt8):Bool:= !decide (Lib.trimS [b] xb=[])&& !(match[b].findSome? fun x=>if(decide ((x.toNat:Int)<97)||decide ((122:Int)<(x.toNat:Int)))=true then some false else none with|some b=>b|none=>true)&& !Lib.containsAny [b] [46,45,43,95]
theorem L1:(List.range 256).all (fun n=>decide (n<33)||decide (126<n)||(TJ (UInt8.ofNat n)==e9 (UInt8.ofNat n)))=true:=oK
theorem SB (b:UInt8):oO b=some (e9 b):=by
 unfold oO cf;dsimp only
 by_cases h:33<=b.toNat/\b.toNat<=126
 ·have hc:iT [b] [46,45,43,95]=some (Lib.containsAny [b] [46,45,43,95]):=by
   unfold iT
   rw[Wy ⟨by simp,by simp,by simp;omega,by decide⟩]
  have G:=VN.1 L1 b.toNat (Wh.2 b.toNat_lt)
  have hb:UInt8.ofNat b.toNat=b:=by simp
  rw[hb] at G
  have H:decide ((33:Int)<=(b.toNat:Int))=true:=by simp;omega
  have d2:decide ((b.toNat:Int)<=126)=true:=by simp;omega
  have q:decide (b.toNat<33)=false:=by simp;omega
  have a:decide (126<b.toNat)=false:=by simp;omega
  simp only[q,a,Wm,Vz] at G
  rw[<-G]
  simp only[L0 b oM,rp [b] oS,yK [b] _ _ oS,hc,aO,Vh,H,d2,V3]
  rfl
 ·have Z:e9 b=false:=by
   unfold e9
   have:(decide ((b.toNat:Int)<33)||decide (126<(b.toNat:Int)))=true:=by simp;omega
   rw[this]
   simp
  have d:(decide ((33:Int)<=(b.toNat:Int))&&decide ((b.toNat:Int)<=126))=false:=by simp;omega
  rw[Z]
  simp only[aO,Vh,d]
  rfl
def L2 (x:UInt8):Bool:=decide ((x.toNat:Int)<32)||decide (126<(x.toNat:Int))
def qP (t:List UInt8):Int:=if 1000<t.length then 2 else match t.findSome? (fun x=>if L2 x=true then some (3:Int) else none) with|some a=>a|none=>0
theorem vf {α A B:Type} (p:α->Bool) (a:A) (b:B):∀ (l:List α),(l.findSome? (fun x=>if p x=true then some a else none)=none/\l.findSome? (fun x=>if p x=true then some b else none)=none)\/(l.findSome? (fun x=>if p x=true then some a else none)=some a/\l.findSome? (fun x=>if p x=true then some b else none)=some b)
 |[]=> .inl ⟨rfl,rfl⟩
 |x::l=>by
  rw[XD,XD]
  cases h:p x with
  |true=>exact .inr ⟨by simp,by simp⟩
  |false=>simpa using vf p a b l
theorem SD (t:List UInt8):hZ t=some (qP t):=by
 unfold hZ cQ;dsimp only
 unfold qP
 by_cases h:1000<t.length
 ·have:decide ((1000:Int)<(t.length:Int))=true:=by simp;omega
  simp only[this,Vo,h,VW]
 ·have:decide ((1000:Int)<(t.length:Int))=false:=by simp;omega
  simp only[this,Vn,h,VQ]
  refine dO (FV t (fun x=>if L2 x=true then some (3:Int) else none) (fun i e he=> ?_) ?_) ?_
  ·obtain⟨h5, -⟩:=Vr.1 he
   simp only[aX h5,Vo,am,he,Vh,bx,aW i oM]
   show(bif L2 e then gr (gr (some 3)) else some (Sum.inl ((i+1:Nat):Int)))=_
   cases L2 e<;>rfl
  ·simp only[aB,Vn];rfl
  ·cases t.findSome? _<;>rfl
theorem SE (t:List UInt8):pM t=some (qP t):=by
 unfold pM jn;dsimp only
 unfold qP
 by_cases h:1000<t.length
 ·have:decide ((1000:Int)<(t.length:Int))=true:=by simp;omega
  simp only[this,Vo,h,VW]
 ·have h1:decide ((1000:Int)<(t.length:Int))=false:=by simp;omega
  have h2:decide ((t.length:Int)<=1000)=true:=by simp;omega
  have hT:uK t=some (match t.findSome? fun x=>if L2 x=true then some false else none with|some b=>b|none=>true):=by
   unfold uK cf;dsimp only
   simp only[h2,yK t _ _ oM,aO,Vh,V3]
   rfl
  simp only[h1,Vn,h,VQ,hT,Vh]
  rcases vf L2 (3:Int) false t with⟨e1,e2⟩|⟨e1,e2⟩<;>rw[e1,e2]<;>rfl
variable {A T:Type} {i:Nat} {α β:Type} {e:α} {f:T->Option (T⊕A)} {l:List α}
def Ee {α S A:Type} (g:Nat->S->α->Option (S⊕A)) (fin:S->Option A):List α->Nat->S->Option A
 |[],_,s=>fin s
 |e::l,i,s=>match g i s e with
  |some (.inl s')=>Ee g fin l (i+1) s'
  |some (.inr a)=>some a
  |none=>none
theorem eF {t:List α} (hd:l.drop i=e::t):l[i]?=some e/\i<l.length/\l.drop (i+1)=t:=by
 refine⟨?_, ?_, ?_⟩
 ·have:=Wf (fun q=>q[0]?) hd
  simpa using this
 ·rcases VR i l.length with h|h
  ·exact h
  ·rw[WM h] at hd;cases hd
 ·have:=Wf List.tail hd
  simpa using this
theorem e4 (hd:l.drop i=[]) (hi:i<=l.length):i=l.length:=by
 have:=Wf List.length hd;simp at this;omega
theorem FS {S:Type} (l:List α) (mk:Nat->S->T) (g:Nat->S->α->Option (S⊕A)) (fin:S->Option A) (hb:∀ (i:Nat) (e:α) (s:S),l[i]?=some e->f (mk i s)=(match g i s e with|some (.inl s')=>some (.inl (mk (i+1) s'))|some (.inr a)=>some (.inr a)|none=>none)) (he:∀ s,f (mk l.length s)=(fin s).map .inr) (s:S):bn f (mk 0 s)=Ee g fin l 0 s:=by
 have:∀ (t:List α) (i:Nat) (s:S),l.drop i=t->i<=l.length->bn f (mk i s)=Ee g fin t i s:=by
  intro t
  induction t with
  |nil=>
   intro i s hd hi
   have:=e4 hd hi
   subst this
   rw[bS,he]
   simp only[Ee]
   cases fin s<;>rfl
  |cons e t ih=>
   intro i s hd hi
   obtain⟨h1,h2,E⟩:=eF hd
   rw[bS,hb i e s h1]
   simp only[Ee]
   cases g i s e with
   |none=>rfl
   |some o=>
    cases o with
    |inr a=>rfl
    |inl s'=>exact ih (i+1) s' E h2
 exact this l 0 s rfl (V0 _)
theorem sn (l:List α) (st:Nat->List α->T) {a:A} (hb:∀ (i:Nat) (e:α),l[i]?=some e->f (st i (l.take i))=some (.inl (st (i+1) (l.take i++[e])))) (he:f (st l.length l)=some (.inr a)):bn f (st 0 [])=some a:=by
 have:=nI (f:=f) (a:=a) (fun i=>st i (l.take i)) l.length (fun i hi=>by
  obtain⟨e,h⟩:=dl hi
  show f (st i (l.take i))=some (.inl (st (i+1) (l.take (i+1))))
  rw[hb i e h,je h]) (by
  show f (st l.length (l.take l.length))=_
  rw[WF];exact he)
 simpa using this
def en {α β:Type} (f:Nat->α->List β):Nat->List α->List β
 |_,[]=>[]
 |i,x::l=>f i x++en f (i+1) l
theorem zG {α β:Type} (f:Nat->α->List β):∀ (l l2:List α) (i:Nat),en f i (l++l2)=en f i l++en f (i+l.length) l2
 |[],l2,i=>by simp[en]
 |x::l,l2,i=>by
  simp only[VG,en,zG f l l2 (i+1),Vy,Vk]
  rw[show i+1+l.length=i+(l.length+1) by omega]
theorem yJ (f:Nat->α->List β) (l:List α) (e:α):en f 0 (l++[e])=en f 0 l++f l.length e:=by
 rw[zG];simp[en]
theorem FT {α β:Type} {f:Nat->α->List β} {y:β}:∀ {l:List α} {i:Nat},y∈en f i l->∃ k e,l[k]?=some e/\y∈f (i+k) e
 |[],i,h=>by simp[en] at h
 |x::l,i,h=>by
  simp only[en,VM] at h
  rcases h with h|h
  ·exact⟨0,x,rfl,by simpa using h⟩
  ·obtain⟨k,e,h1,h2⟩:=FT h
   exact⟨k+1,e,by simpa using h1,by rwa[show i+(k+1)=i+1+k by omega]⟩
theorem xt {α β:Type} {f:Nat->α->List β} {b:Nat}:∀ (l:List α) (i:Nat),(∀ i e,e∈l->(f i e).length<=b)->(en f i l).length<=l.length * b
 |[],_,_=>by simp[en]
 |x::l,i,C=>by
  have h1:=C i x oS
  have h2:=xt l (i+1) (fun i e he=>C i e (by simp[he]))
  simp only[en,Vl,Vk,WA,Nat.one_mul]
  omega
theorem wY (h:l[i]?=some e):(l.take i).length=i:=by
 obtain⟨hi, -⟩:=Vr.1 h
 simp;omega
theorem b9 (h:l[i]?=some e):i<l.length:=(Vr.1 h).1
theorem AP {f:Nat->α->List β} {P:β->Prop} (h:∀ i e,e∈l->∀ y∈f i e,P y):∀ y∈en f i l,P y:=fun y hy=>by
 obtain⟨k,e,h1,h2⟩:=FT hy
 exact h _ e (Vq h1) y h2
theorem bU {R:Type} {n:Nat} {m:Option R} (h:n<=137438953472):ew (gq n) m=m:=Ed (KP h)
theorem zH {x:α} (h:x∈l.take i):x∈l:=VU h
def lU {α:Type} (h:α->Int):List α->Int
 |[]=>0
 |e::l=>if h e=0 then lU h l else h e
theorem jR {α R:Type} (l:List α) (h:α->Int) (ret:Int->R) (k:Int->Option R) {f:Int->Option (Int⊕(Int⊕R))} (hb:∀ (i:Nat) (e:α),l[i]?=some e->f (i:Int)=if h e=0 then some (.inl ((i+1:Nat):Int)) else some (.inr (.inr (ret (h e))))) (he:f (l.length:Int)=some (.inr (.inl (l.length:Int)))):(bn f 0).bind (bZ k)=if lU h l=0 then k (l.length:Int) else some (ret (lU h l)):=by
 have:∀ (t:List α) (i:Nat),l.drop i=t->i<=l.length->bn f (i:Int)=if lU h t=0 then some (.inl (l.length:Int)) else some (.inr (ret (lU h t))):=by
  intro t
  induction t with
  |nil=>
   intro i hd hi
   have:=e4 hd hi
   subst this
   rw[bS,he]
   rfl
  |cons e t ih=>
   intro i hd hi
   obtain⟨h1,h2,E⟩:=eF hd
   rw[bS,hb i e h1]
   by_cases h0:h e=0
   ·simp only[lU,h0,VW];exact ih (i+1) E h2
   ·simp only[lU,h0,VQ]
 have e0:bn f 0=if lU h l=0 then some (.inl (l.length:Int)) else some (.inr (ret (lU h l))):=this l 0 rfl (V0 _)
 rw[e0]
 by_cases h0:lU h l=0
 ·rw[Wy h0,Wy h0];rfl
 ·rw[WU h0,WU h0];rfl
theorem hw {α:Type} {h:α->Int}:∀ {l:List α},lU h l=0->∀ e∈l,h e=0
 |[],_,e,he=>by cases he
 |x::l,hl,e,he=>by
  simp only[lU] at hl
  split at hl
  ·rename_i h0
   rcases VK.1 he with rfl|he
   ·exact h0
   ·exact hw hl e he
  ·rename_i h0;exact absurd hl h0
def yM (l:List (List UInt8)):Int:=if l.length=0 then 9 else if 20<l.length then 2 else lU qP l
def mD (e:ak):Int:=if e.fRepeats.length=0 then 9 else if 20<e.fRepeats.length then 2 else lU yM e.fRepeats
theorem SF (e:ak):mL e=some (mD e):=by
 unfold mL nX;dsimp only
 unfold mD
 by_cases h0:e.fRepeats.length=0
 ·have c:decide ((e.fRepeats.length:Int)=0)=true:=VX oM
  simp only[c,Vo,Wy h0]
 ·have d0:decide ((e.fRepeats.length:Int)=0)=false:=VY oM
  by_cases h1:20<e.fRepeats.length
  ·have H:decide ((20:Int)<(e.fRepeats.length:Int))=true:=VX oM
   simp only[d0,H,Vo,Vn,h0,h1,VW,VQ]
  ·have H:decide ((20:Int)<(e.fRepeats.length:Int))=false:=VY oM
   simp only[d0,H,Vn,h0,h1,VQ]
   refine(jR e.fRepeats yM (fun a=>a) _ (fun i l he=> ?_) ?_).trans ?_
   ·have hi:=b9 he
    simp only[aX hi,Vo,am,he,Vh,aW i oM,yM]
    by_cases g0:l.length=0
    ·have g:decide ((l.length:Int)=0)=true:=VX oM
     simp only[g,Vo,Wy g0];rfl
    ·have g:decide ((l.length:Int)=0)=false:=VY oM
     by_cases g1:20<l.length
     ·have T:decide ((20:Int)<(l.length:Int))=true:=VX oM
      simp only[g,T,Vo,Vn,g0,g1,VW,VQ];rfl
     ·have T:decide ((20:Int)<(l.length:Int))=false:=VY oM
      simp only[g,T,Vn,g0,g1,VQ]
      refine(jR l qP (fun a=> .inr (.inr a)) _ (fun j t ht=> ?_) ?_).trans ?_
      ·have hj:=b9 ht
       simp only[aX hj,Vo,am,he,ht,Vh,aW j oM,SE]
       by_cases hz:qP t=0<;>simp[hz,gr]
      ·simp only[am,he,Vh,aB,Vn];rfl
      ·split<;>rfl
   ·simp only[aB,Vn];rfl
   ·split<;>simp_all
theorem SG (e:ak):gv e=some (mD e):=by
 unfold gv cf;dsimp only
 unfold mD
 by_cases h0:e.fRepeats.length=0
 ·have c:decide ((e.fRepeats.length:Int)=0)=true:=VX oM
  simp only[c,Vo,Wy h0]
 ·have d0:decide ((e.fRepeats.length:Int)=0)=false:=VY oM
  by_cases h1:20<e.fRepeats.length
  ·have H:decide ((20:Int)<(e.fRepeats.length:Int))=true:=VX oM
   simp only[d0,H,Vo,Vn,h0,h1,VW,VQ]
  ·have H:decide ((20:Int)<(e.fRepeats.length:Int))=false:=VY oM
   simp only[d0,H,Vn,h0,h1,VQ]
   refine(jR e.fRepeats yM (fun a=>a) _ (fun i l he=> ?_) ?_).trans ?_
   ·have hi:=b9 he
    simp only[aX hi,Vo,am,he,Vh,aW i oM,yM]
    by_cases g0:l.length=0
    ·have g:decide ((l.length:Int)=0)=true:=VX oM
     simp only[g,Vo,Wy g0];rfl
    ·have g:decide ((l.length:Int)=0)=false:=VY oM
     by_cases g1:20<l.length
     ·have T:decide ((20:Int)<(l.length:Int))=true:=VX oM
      simp only[g,T,Vo,Vn,g0,g1,VW,VQ];rfl
     ·have T:decide ((20:Int)<(l.length:Int))=false:=VY oM
      simp only[g,T,Vn,g0,g1,VQ]
      refine(jR l qP (fun a=> .inr (.inr a)) _ (fun j t ht=> ?_) ?_).trans ?_
      ·have hj:=b9 ht
       simp only[aX hj,Vo,am,he,ht,Vh,aW j oM,SD]
       by_cases hz:qP t=0<;>simp[hz,gr]
      ·simp only[am,he,Vh,aB,Vn];rfl
      ·split<;>rfl
   ·simp only[aB,Vn];rfl
   ·split<;>simp_all
theorem np {p:UInt8->Bool}:∀ {l:List UInt8},l.dropWhile p=[]↔∀ x∈l,p x=true
 |[]=>by simp
 |a::l=>by
  rw[XH]
  by_cases h:p a=true
  ·simp[h,np (l:=l)]
  ·simp[h]
theorem o9 {p:UInt8->Bool} {a:UInt8} {r:List UInt8}:∀ {l:List UInt8},l.dropWhile p=a::r->p a=false
 |[],h=>by simp at h
 |b::l,h=>by
  rw[XH] at h
  by_cases Y:p b=true
  ·simp only[Y,VW] at h;exact o9 h
  ·simp only[Y] at h
   simp at h;rw[<-h.1];simpa using Y
theorem IA (l cs:List UInt8):Lib.trimS l cs=[]↔∀ x∈l,cs.contains x=true:=by
 unfold Lib.trimS Lib.trimLeftS Lib.trimRightS
 constructor
 ·intro h
  have h1:List.dropWhile (fun x=>cs.contains x) l.reverse=[]:=by
   cases D:List.dropWhile (fun x=>cs.contains x) l.reverse with
   |nil=>rfl
   |cons a r=>
    exfalso
    have h2:=o9 D
    rw[D,np] at h
    have E:=h a oS
    rw[h2] at E;cases E
  rw[np] at h1
  intro x hx
  exact h1 x (by simpa using hx)
 ·intro h
  have h1:List.dropWhile (fun x=>cs.contains x) l.reverse=[]:=np.2 fun x hx=>h x (by simpa using hx)
  rw[h1];rfl
def vq (b:UInt8):Bool:=decide (65<=(b.toNat:Int))&&decide ((b.toNat:Int)<=90)
def uV (b:UInt8):Bool:=vq b|| !(decide ((b.toNat:Int)<48)||decide (57<(b.toNat:Int)))
theorem Or:(List.range 256).all (fun n=>xb.contains (UInt8.ofNat n)==uV (UInt8.ofNat n))=true:=oK
theorem Qm (b:UInt8):xb.contains b=uV b:=by
 have:=VN.1 Or b.toNat (Wh.2 b.toNat_lt)
 have hb:UInt8.ofNat b.toNat=b:=by simp
 rw[hb] at this
 simpa using this
def IB:List UInt8:=[65,66,67,68,69,70,71,72,73,74,75,76,77,78,79,80,81,82,83,84,85,86,87,88,89,90]
theorem Ot:(List.range 256).all (fun n=>decide (0<=Lib.indexByte IB (UInt8.ofNat n))==vq (UInt8.ofNat n))=true:=oK
theorem Qn (b:UInt8):decide (0<=Lib.indexByte IB b)=vq b:=by
 have:=VN.1 Ot b.toNat (Wh.2 b.toNat_lt)
 have hb:UInt8.ofNat b.toNat=b:=by simp
 rw[hb] at this
 simpa using this
theorem Ef (l:List UInt8):decide (Lib.trimS l xb=[])=l.all uV:=by
 rw[Wa,Vv,IA,VN]
 simp only[Qm]
def q6:List UInt8->Bool
 |[]=>false
 |b::l=>decide (1<=l.length)&&decide (l.length<=5)&&vq b&&l.all uV
theorem Q6 (l:List UInt8) (hl:l.length<=9223372036854775807):wj l=some (q6 l):=by
 unfold wj cf;dsimp only
 cases l with
 |nil=>rfl
 |cons b l=>
  have L:aV (b::l) 0=some b:=rfl
  have hi:ra IB b=some (Lib.indexByte IB b):=rfl
  have hu:([65,66,67,68,69,70,71,72,73,74,75,76,77,78,79,80,81,82,83,84,85,86,87,88,89,90]:List UInt8)=IB:=rfl
  simp only[rp (b::l) hl,Ef,L,hu,hi,Vh,aO,Qn,q6]
  have h1:decide ((2:Int)<=((b::l).length:Int))=decide (1<=l.length):=by simp only[Vk];congr 1;apply propext;omega
  have h2:decide (((b::l).length:Int)<=6)=decide (l.length<=5):=by simp only[Vk];congr 1;apply propext;omega
  rw[h1,h2]
  cases hb:vq b with
  |false=>simp
  |true=>simp[uV,hb]
def G9 (i:Nat) (b:UInt8):Bool:=vq b||(decide (i≠0)&&uV b)
theorem IC (l:List UInt8) (hl:l.length<=9223372036854775807):fz l=some ((match l with|[]=>true|b::l=>vq b&&l.all uV)&&decide (l.length<=6)):=by
 unfold fz cQ;dsimp only
 have key:=FS (f:=fun s=>bif decide (s<(l.length:Int)) then(aV l s).bind fun e=>(lD (decide (65<=(e.toNat:Int))) ((aV l s).bind fun e=>some (decide ((e.toNat:Int)<=90)))).bind fun v=>(lD (!v) ((IU (decide (s=0)) ((aV l s).bind fun e=>some (decide ((e.toNat:Int)<48)))).bind fun v=>(IU v ((aV l s).bind fun e=>some (decide (57<(e.toNat:Int))))).bind fun v=>some v)).bind fun v=>bif v then gr (gr (some false)) else some (Sum.inl (IntKind.i64.wrap (s+1))) else gr (some (Sum.inl s)))
  l (fun i (_:Unit)=>(i:Int)) (fun i _ e=>if G9 i e=true then some (.inl ()) else some (.inr (.inr false))) (fun _=>some (Sum.inl (l.length:Int))) (fun i e s he=> ?_) (fun s=> ?_) ()
 ·rw[show((0:Nat):Int)=0 from rfl] at key
  rw[key]
  have h2:∀ (t:List UInt8) (i:Nat),0<i->Ee (fun i (_:Unit) e=>if G9 i e=true then some (.inl ()) else some (.inr (.inr false))) (fun _=>some (Sum.inl (l.length:Int))) t i ()=if t.all uV=true then some (Sum.inl (l.length:Int)) else some (.inr false):=by
   intro t
   induction t with
   |nil=>intro i _;rfl
   |cons b t ih=>
    intro i hi
    simp only[Ee]
    have:G9 i b=uV b:=by
     unfold G9
     rw[VX (show i≠0 by omega),V3]
     unfold uV
     cases vq b<;>simp
    rw[this]
    cases hb:uV b with
    |true=>simp only[VW,ih (i+1) oM,Wv,hb,V3]
    |false=>simp[hb]
  cases l with
  |nil=>rfl
  |cons b l=>
   simp only[Ee]
   have E:G9 0 b=vq b:=by unfold G9;cases vq b<;>simp
   have h4:decide (((b::l).length:Int)<=6)=decide ((b::l).length<=6):=by congr 1;apply propext;omega
   rw[E]
   cases hb:vq b with
   |false=>simp[bZ,hb]
   |true=>
    simp only[VW]
    rw[h2 l 1 oM]
    cases hl:l.all uV with
    |true=>simp[bZ,hb,h4];omega
    |false=>simp[bZ,hb]
 ·have hi:=b9 he
  simp only[aX hi,Vo,am,he,Vh,aO,bx,aW i oM]
  have h0:decide ((i:Int)=0)=decide (i=0):=by congr 1;apply propext;omega
  have h1:(!(decide (65<=(e.toNat:Int))&&decide ((e.toNat:Int)<=90))&&(decide ((i:Int)=0)||decide ((e.toNat:Int)<48)||decide (57<(e.toNat:Int))))= !G9 i e:=by
   rw[h0]
   unfold G9 uV vq
   cases decide (65<=(e.toNat:Int))<;>cases decide ((e.toNat:Int)<=90)<;>by_cases v9:i=0<;>simp[v9]
  rw[h1]
  cases G9 i e<;>rfl
 ·simp only[aB,Vn];rfl
theorem Q7 (l:List UInt8) (hl:l.length<=9223372036854775807):ki l=some (q6 l):=by
 unfold ki cf;dsimp only
 simp only[IC l hl,Vh,aO]
 cases l with
 |nil=>rfl
 |cons b l=>
  have h1:decide ((2:Int)<=((b::l).length:Int))=decide (1<=l.length):=by simp only[Vk];congr 1;apply propext;omega
  have h2:decide ((b::l).length<=6)=decide (l.length<=5):=by simp only[Vk];congr 1;apply propext;omega
  rw[h1,h2]
  simp only[q6]
  cases vq b<;>cases l.all uV<;>simp
def xK (s:aa):Int:=if q6 s.fTag=false then 5 else if 50<s.fElements.length then 2 else lU mD s.fElements
def fJ (l:List aa):Int:=if 2000<l.length then 2 else lU xK l
def xv (l:List aa):Prop:=∀ s∈l,s.fTag.length<=9223372036854775807
theorem TK (s:aa) (hs:s.fTag.length<=9223372036854775807):iF s=some (xK s):=by
 unfold iF jn;dsimp only
 unfold xK
 rw[Q7 s.fTag hs]
 simp only[Vh]
 cases ht:q6 s.fTag with
 |false=>simp
 |true=>
  simp only[Vt,Vn,Xv,VQ]
  by_cases h1:50<s.fElements.length
  ·have H:decide ((50:Int)<(s.fElements.length:Int))=true:=VX oM
   simp only[H,Vo,h1,VW]
  ·have H:decide ((50:Int)<(s.fElements.length:Int))=false:=VY oM
   simp only[H,Vn,h1,VQ]
   refine(jR s.fElements mD (fun a=>a) _ (fun i e he=> ?_) ?_).trans ?_
   ·have hi:=b9 he
    simp only[aX hi,Vo,am,he,Vh,aW i oM,SG]
    by_cases hz:mD e=0<;>simp[hz,gr]
   ·simp only[aB,Vn];rfl
   ·split<;>simp_all
theorem Ou (l:List aa) (hs:xv l):gg l=some (fJ l):=by
 unfold gg nX;dsimp only
 unfold fJ
 by_cases h1:2000<l.length
 ·have H:decide ((2000:Int)<(l.length:Int))=true:=VX oM
  simp only[H,Vo,h1,VW]
 ·have H:decide ((2000:Int)<(l.length:Int))=false:=VY oM
  simp only[H,Vn,h1,VQ]
  refine(jR l xK (fun a=>a) _ (fun i e he=> ?_) ?_).trans ?_
  ·have hi:=b9 he
   simp only[aX hi,Vo,am,he,Vh,aW i oM,TK e (hs e (Vq he))]
   by_cases hz:xK e=0<;>simp[hz,gr]
  ·simp only[aB,Vn];rfl
  ·split<;>simp_all
theorem JT (l:List aa) (hs:xv l):l9 l=some (fJ l):=by
 unfold l9 wl;dsimp only
 unfold fJ
 by_cases h1:2000<l.length
 ·have H:decide ((2000:Int)<(l.length:Int))=true:=VX oM
  simp only[H,Vo,h1,VW]
 ·have H:decide ((2000:Int)<(l.length:Int))=false:=VY oM
  simp only[H,Vn,h1,VQ]
  refine(jR l xK (fun a=>a) _ (fun i s y=> ?_) ?_).trans ?_
  ·have hi:=b9 y
   have f:=hs s (Vq y)
   simp only[aX hi,Vo,am,y,Vh,aW i oM,Q6 s.fTag oM,xK]
   by_cases ht:q6 s.fTag=false
   ·simp[ht,gr]
   ·replace ht:q6 s.fTag=true:=by simpa using ht
    simp only[ht,Vt,Vn,Xv,VQ]
    by_cases h1:50<s.fElements.length
    ·have H:decide ((50:Int)<(s.fElements.length:Int))=true:=VX oM
     simp only[H,Vo,h1,VW];rfl
    ·have H:decide ((50:Int)<(s.fElements.length:Int))=false:=VY oM
     simp only[H,Vn,h1,VQ]
     refine(jR s.fElements mD (fun a=> .inr (.inr a)) _ (fun i e he=> ?_) ?_).trans ?_
     ·have hi:=b9 he
      simp only[aX hi,Vo,am,he,Vh,aW i oM,SF]
      by_cases hz:mD e=0<;>simp[hz,gr]
     ·simp only[aB,Vn];rfl
     ·split<;>rfl
  ·simp only[aB,Vn];rfl
  ·split<;>simp_all
def q7 {α:Type} (h:Nat->α->Int):Nat->List α->Int
 |_,[]=>0
 |i,e::l=>if h i e=0 then q7 h (i+1) l else h i e
theorem BE {α R:Type} (l:List α) (h:Nat->α->Int) (ret:Int->R) (k:Int->Option R) {f:Int->Option (Int⊕(Int⊕R))} (hb:∀ (i:Nat) (e:α),l[i]?=some e->f (i:Int)=if h i e=0 then some (.inl ((i+1:Nat):Int)) else some (.inr (.inr (ret (h i e))))) (he:f (l.length:Int)=some (.inr (.inl (l.length:Int)))):(bn f 0).bind (bZ k)=if q7 h 0 l=0 then k (l.length:Int) else some (ret (q7 h 0 l)):=by
 have:∀ (t:List α) (i:Nat),l.drop i=t->i<=l.length->bn f (i:Int)=if q7 h i t=0 then some (.inl (l.length:Int)) else some (.inr (ret (q7 h i t))):=by
  intro t
  induction t with
  |nil=>
   intro i hd hi
   have:=e4 hd hi
   subst this
   rw[bS,he]
   rfl
  |cons e t ih=>
   intro i hd hi
   obtain⟨h1,h2,E⟩:=eF hd
   rw[bS,hb i e h1]
   by_cases h0:h i e=0
   ·simp only[q7,h0,VW];exact ih (i+1) E h2
   ·simp only[q7,h0,VQ]
 have e0:bn f 0=if q7 h 0 l=0 then some (.inl (l.length:Int)) else some (.inr (ret (q7 h 0 l))):=this l 0 rfl (V0 _)
 rw[e0]
 by_cases h0:q7 h 0 l=0
 ·rw[Wy h0,Wy h0];rfl
 ·rw[WU h0,WU h0];rfl
def JU {α:Type} (c:Nat->α->Bool):Nat->List α->Bool
 |_,[]=>false
 |i,e::l=>c i e||JU c (i+1) l
theorem yN {α:Type} (c:Nat->α->Bool) (n:Int) (hn:n≠0):∀ (l:List α) (i:Nat),q7 (fun i e=>if c i e=true then n else 0) i l=if JU c i l=true then n else 0
 |[],_=>rfl
 |e::l,i=>by
  simp only[q7,JU,yN c n hn l (i+1)]
  by_cases hc:c i e=true<;>simp[hc,hn]
def ud (a b:UInt8):Bool:=decide ((a.toNat:Int)=(b.toNat:Int))
def JV (m:ab):Bool:= !e9 m.fElement|| !e9 m.fPart|| !e9 m.fRepeat|| !e9 m.fEnd||(!decide ((m.fEscape.toNat:Int)=0)&& !e9 m.fEscape)
def zI (m:ab):Bool:=ud m.fPart m.fElement||ud m.fRepeat m.fElement||ud m.fRepeat m.fPart||ud m.fEnd m.fElement||ud m.fEnd m.fPart||ud m.fEnd m.fRepeat||ud m.fEscape m.fElement||ud m.fEscape m.fPart||ud m.fEscape m.fRepeat||ud m.fEscape m.fEnd
def jS (m:ab):Int:=if JV m=true then 3 else if zI m=true then 7 else 0
theorem L3 (l:List UInt8) (e:UInt8):lU (fun b=>if ud e b=true then(7:Int) else 0) l=if l.any (ud e)=true then 7 else 0:=by
 induction l with
 |nil=>rfl
 |cons b l ih=>
  simp only[lU,ih,List.any_cons]
  by_cases hc:ud e b=true<;>simp[hc]
theorem Qo (m:ab):eW m=some (jS m):=by
 unfold eW cf;dsimp only
 simp only[SA,Vh,bx,aO]
 unfold jS
 have hb:(!e9 m.fElement|| !e9 m.fPart|| !e9 m.fRepeat|| !e9 m.fEnd|| !decide ((m.fEscape.toNat:Int)=0)&& !e9 m.fEscape)=JV m:=rfl
 rw[hb]
 by_cases h:JV m=true
 ·simp only[h,Vo,VW]
 ·rw[WU h]
  simp only[WK] at h
  simp only[h,Vn]
  refine(BE [m.fElement,m.fPart,m.fRepeat,m.fEscape,m.fEnd] (fun i e=>if([m.fElement,m.fPart,m.fRepeat,m.fEscape,m.fEnd].take i).any (ud e)=true then 7 else 0) (fun a=>a) _ (fun i e he=> ?_) ?_).trans ?_
  ·have hi:i<5:=b9 he
   have h5:decide ((i:Int)<5)=true:=VX oM
   simp only[h5,Vo,am,he,Vh,aW i oM]
   have I:([m.fElement,m.fPart,m.fRepeat,m.fEscape,m.fEnd].take i).length=i:=by rw[VA];simp;omega
   refine(jR ([m.fElement,m.fPart,m.fRepeat,m.fEscape,m.fEnd].take i) (fun b=>if ud e b=true then(7:Int) else 0) (fun a=> .inr (.inr a)) _ (fun j b hj=> ?_) ?_).trans ?_
   ·have f:=b9 hj
    rw[I] at f
    rw[WH f] at hj
    have h6:decide ((j:Int)<(i:Int))=true:=VX oM
    simp only[h6,Vo,am,hj,Vh,aW j oM]
    show(bif ud e b then _ else _)=_
    cases ud e b<;>rfl
   ·rw[I]
    simp only[aB,Vn]
    first|done|rfl
   ·rw[L3]
  ·rfl
  ·rw[yN (fun i e=>([m.fElement,m.fPart,m.fRepeat,m.fEscape,m.fEnd].take i).any (ud e)) 7 oD]
   have:JU (fun i e=>([m.fElement,m.fPart,m.fRepeat,m.fEscape,m.fEnd].take i).any (ud e)) 0 [m.fElement,m.fPart,m.fRepeat,m.fEscape,m.fEnd]=zI m:=by
    rw[Wa]
    simp only[JU,List.take,List.any_cons,List.any_nil,zI,ud,V8,Vv,Bool.or_false,Wm]
    omega
   rw[this]
   cases zI m<;>rfl
theorem ID (l:List UInt8) (b:UInt8) (hl:l.length<9223372036854775807):h_ l b=some (l.any (ud b)):=by
 unfold h_ cf;dsimp only
 have hI:jF l b=some (match l.findIdx? (ud b) with|some i=>(i:Int)|none=> -1):=by
  unfold jF cQ;dsimp only
  have:∀ (t:List UInt8) (i:Nat) (f:Int->Option (Int⊕(Int⊕Int))),l.drop i=t->i<=l.length->(∀ (i:Nat) (e:UInt8),l[i]?=some e->f (i:Int)=bif ud b e then some (.inr (.inr (i:Int))) else some (.inl ((i+1:Nat):Int)))->f (l.length:Int)=some (.inr (.inl (l.length:Int)))->
    bn f (i:Int)=some (match t.findIdx? (ud b) with|some j=> .inr (((i+j:Nat)):Int)|none=> .inl (l.length:Int)):=by
   intro t
   induction t with
   |nil=>
    intro i f hd hi hb he
    have:=e4 hd hi
    subst this
    rw[bS,he]
    rfl
   |cons e t ih=>
    intro i f hd hi hb he
    obtain⟨h1,h2,E⟩:=eF hd
    rw[bS,hb i e h1,List.findIdx?_cons]
    cases hq:ud b e with
    |true=>simp
    |false=>
     simp only[Vn]
     rw[ih (i+1) f E h2 hb he]
     cases t.findIdx? (ud b) with
     |none=>rfl
     |some j=>simp;omega
  refine dO (this l 0 _ rfl (V0 _) (fun i e he=> ?_) ?_) ?_
  ·have hi:=b9 he
   simp only[aX hi,Vo,am,he,Vh,aW i oM]
   show(bif ud b e then _ else _)=_
   cases ud b e<;>rfl
  ·simp only[aB,Vn];rfl
  ·cases l.findIdx? (ud b) with
   |none=>rfl
   |some j=>simp[bZ]
 rw[hI]
 simp only[Vh]
 congr 1
 cases h:l.findIdx? (ud b) with
 |none=>
  rw[List.findIdx?_eq_none_iff] at h
  symm
  simp only[]
  simpa using h
 |some j=>
  have h2:=List.findIdx?_eq_some_iff_getElem.1 h
  obtain⟨hj,E, -⟩:=h2
  symm
  simp only[Int.natCast_nonneg,VS]
  exact Xr.2 ⟨l[j],List.getElem_mem hj,E⟩
theorem KR (m:ab):gX m=some (jS m):=by
 unfold gX jn;dsimp only
 simp only[SB,Vh,aO]
 unfold jS
 have hb:JV m=(lU (fun b=>if e9 b=true then(0:Int) else 3) [m.fElement,m.fPart,m.fRepeat,m.fEnd] !=0||(!decide ((m.fEscape.toNat:Int)=0)&& !e9 m.fEscape)):=by
  unfold JV
  simp only[lU]
  by_cases h1:e9 m.fElement=true<;>by_cases h2:e9 m.fPart=true<;>by_cases E:e9 m.fRepeat=true<;>by_cases h4:e9 m.fEnd=true<;>simp[h1,h2,E,h4]
 rw[hb]
 refine(jR [m.fElement,m.fPart,m.fRepeat,m.fEnd] (fun b=>if e9 b=true then(0:Int) else 3) (fun _=>3) _ (fun i e he=> ?_) ?_).trans ?_
 ·have hi:i<4:=b9 he
  have h4:decide ((i:Int)<4)=true:=VX oM
  simp only[h4,Vo,am,he,Vh,aW i oM]
  cases e9 e<;>rfl
 ·rfl
 ·by_cases h0:lU (fun b=>if e9 b=true then(0:Int) else 3) [m.fElement,m.fPart,m.fRepeat,m.fEnd]=0
  ·rw[Wy h0,h0]
   simp only[bne_self_eq_false,Wm]
   by_cases h1:(!decide ((m.fEscape.toNat:Int)=0)&& !e9 m.fEscape)=true
   ·rw[Wy h1];simp only[h1,Vo]
   ·rw[WU h1]
    simp only[WK] at h1
    simp only[h1,Vn]
    rw[Ed (KP oS)]
    refine(BE [m.fElement,m.fPart,m.fRepeat,m.fEnd,m.fEscape] (fun i e=>if([m.fElement,m.fPart,m.fRepeat,m.fEnd].take i).any (ud e)=true then 7 else 0) (fun a=>a) _ (fun i e he=> ?_) ?_).trans ?_
    ·have hi:i<5:=b9 he
     have h5:decide ((i:Int)<5)=true:=VX oM
     have hs:b5 [m.fElement,m.fPart,m.fRepeat,m.fEnd] 0 (if 4<(i:Int) then 4 else(i:Int))=some ([m.fElement,m.fPart,m.fRepeat,m.fEnd].take i):=by
      have:¬ (4<(i:Int)):=by omega
      rw[WU this]
      unfold b5
      rw[Wy ⟨by omega,by omega,by simp;omega⟩]
      simp
     have hn:[m.fElement,m.fPart,m.fRepeat,m.fEnd,m.fEscape][(i:Int).toNat]?=some e:=by simpa using he
     simp only[h5,Vo,am,he,hn,Vh,aW i oM]
     have s:b5 [m.fElement,m.fPart,m.fRepeat,m.fEnd] ((none:Option Int).getD 0) ((some (if 4<(i:Int) then 4 else(i:Int))).getD ((4:Nat):Int))=some ([m.fElement,m.fPart,m.fRepeat,m.fEnd].take i):=hs
     rw[s]
     simp only[Vh]
     rw[ID _ e (by rw[VA];simp;omega)]
     simp only[Vh]
     cases([m.fElement,m.fPart,m.fRepeat,m.fEnd].take i).any (ud e)<;>rfl
    ·rfl
    ·rw[yN (fun i e=>([m.fElement,m.fPart,m.fRepeat,m.fEnd].take i).any (ud e)) 7 oD]
     have:JU (fun i e=>([m.fElement,m.fPart,m.fRepeat,m.fEnd].take i).any (ud e)) 0 [m.fElement,m.fPart,m.fRepeat,m.fEnd,m.fEscape]=zI m:=by
      rw[Wa]
      simp only[JU,List.take,List.any_cons,List.any_nil,zI,ud,V8,Vv,Bool.or_false,Wm]
      omega
     rw[this]
     cases zI m<;>rfl
  ·rw[WU h0]
   have:(lU (fun b=>if e9 b=true then(0:Int) else 3) [m.fElement,m.fPart,m.fRepeat,m.fEnd] !=0)=true:=by simpa using h0
   rw[this]
   rfl
variable {t:List UInt8}
def Co (m:ab) (b:UInt8):Bool:=decide ((b.toNat:Int)=(m.fElement.toNat:Int))||decide ((b.toNat:Int)=(m.fPart.toNat:Int))||decide ((b.toNat:Int)=(m.fRepeat.toNat:Int))||decide ((b.toNat:Int)=(m.fEnd.toNat:Int))||(!decide ((m.fEscape.toNat:Int)=0)&&decide ((b.toNat:Int)=(m.fEscape.toNat:Int)))
theorem Q8 (m:ab) (b:UInt8):tc m b=some (Co m b):=by
 unfold tc vC;dsimp only
 simp only[bx,aO,Vh,Co]
theorem FX (m:ab) (b:UInt8):jB m b=some (Co m b):=by
 unfold jB vG;dsimp only
 simp only[bx,aO,Vh,Co]
def AQ (m:ab) (t:List UInt8):Nat:=t.countP (Co m)
theorem IE (h:qP t=0):t.length<=1000:=by
 unfold qP at h
 split at h
 ·cases h
 ·omega
theorem G_ {l:List (List UInt8)} (h:yM l=0):l.length<=20/\0<l.length/\∀ t∈l,qP t=0:=by
 unfold yM at h
 split at h
 ·cases h
 ·split at h
  ·cases h
  ·exact⟨by omega,by omega,hw h⟩
theorem Eg {x:ak} (h:mD x=0):x.fRepeats.length<=20/\0<x.fRepeats.length/\∀ t∈x.fRepeats,yM t=0:=by
 unfold mD at h
 split at h
 ·cases h
 ·split at h
  ·cases h
  ·exact⟨by omega,by omega,hw h⟩
theorem Ha (h:q6 t=true):t.length<=6/\2<=t.length:=by
 cases t with
 |nil=>cases h
 |cons b t=>
  simp only[q6,Vj,Vv] at h
  simp only[Vk]
  omega
theorem Hb {s:aa} (h:xK s=0):q6 s.fTag=true/\s.fTag.length<=6/\2<=s.fTag.length/\s.fElements.length<=50/\∀ e∈s.fElements,mD e=0:=by
 unfold xK at h
 split at h
 ·cases h
 ·rename_i h1
  have h1:q6 s.fTag=true:=by simpa using h1
  split at h
  ·cases h
  ·exact⟨h1,(Ha h1).1,(Ha h1).2,by omega,hw h⟩
theorem o_ {l:List aa} (h:fJ l=0):l.length<=2000/\∀ s∈l,xK s=0:=by
 unfold fJ at h
 split at h
 ·cases h
 ·exact⟨by omega,hw h⟩
theorem KS (m:ab) (t:List UInt8):AQ m t<=t.length:=List.countP_le_length
structure Mp where
 sp:iy
 mark:UInt8
 t:List UInt8
variable {e k:Nat} {l:List (List (List UInt8))} {m:ab} {r:Nat}
def ue (m:ab) (t:List UInt8):List UInt8:=t.flatMap fun b=>if Co m b=true/\m.fEscape.toNat≠0 then[m.fEscape,b] else[b]
theorem AR (m:ab) (t:List UInt8) (b:UInt8):ue m (t++[b])=ue m t++(if Co m b=true/\m.fEscape.toNat≠0 then[m.fEscape,b] else[b]):=by simp[ue]
theorem Eh (m:ab):∀ (t:List UInt8),(ue m t).length<=2 * t.length
 |[]=>by simp[ue]
 |b::t=>by
  have:=Eh m t
  have h:ue m (b::t)=(if Co m b=true/\m.fEscape.toNat≠0 then[m.fEscape,b] else[b])++ue m t:=by simp[ue]
  rw[h,Vl,Vk]
  split<;>simp<;>omega
theorem AU (m:ab) (t:List UInt8) (b:UInt8):AQ m (t++[b])=AQ m t+(if Co m b=true then 1 else 0):=by simp[AQ,List.countP_append,List.countP_singleton]
abbrev RT:=List UInt8×List bM×Nat
variable {w:RT}
def zJ (m:ab) (seg:Int) (w:RT) (p:Mp):RT:=(w.1++p.mark::ue m p.t,w.2.1++[⟨seg,p.sp,((w.1.length:Nat):Int),((w.1.length+1:Nat):Int),((w.1.length+1+(ue m p.t).length:Nat):Int)⟩],w.2.2+AQ m p.t)
theorem SH (m:ab) (o:List UInt8) (ps:List bM) (c:Nat) (seg:Int) (sp:iy) (mk:UInt8) (t:List UInt8) (ht:t.length<=1000) (ho:o.length<=137438950000) (A:ps.length<=137438950000) (hc:c<=137438950000):
  dC ⟨m,o,ps,(c:Int)⟩ seg sp mk t=some ((),⟨m,(zJ m seg (o,ps,c) ⟨sp,mk,t⟩).1,(zJ m seg (o,ps,c) ⟨sp,mk,t⟩).2.1,(((zJ m seg (o,ps,c) ⟨sp,mk,t⟩).2.2:Nat):Int)⟩):=by
 unfold dC wo;dsimp only
 rw[bU oT]
 refine dO (sn (a:= .inl (m,o++mk::ue m t,ps,((c+AQ m t:Nat):Int),((t.length:Nat):Int))) t (fun i pre=>(m,o++mk::ue m pre,ps,((c+AQ m pre:Nat):Int),((i:Nat):Int))) (fun i e he=> ?_) ?_) ?_
 ·have hi:=b9 he
  have hl:=wY he
  have h1:=Eh m (t.take i)
  have h2:=KS m (t.take i)
  have G:IntKind.i64.wrap (((c+AQ m (t.take i):Nat):Int)+1)=((c+AQ m (t.take i)+1:Nat):Int):=aW _ oM
  simp only[aX hi,Vo,am,he,Vh,FX,aW i oM,G]
  simp(disch:=(first|omega|(simp only[Vl,Vk,Vp];omega))) only[bU]
  by_cases Z:Co m e=true
  ·by_cases hz:m.fEscape.toNat=0
   ·have d:decide ((m.fEscape.toNat:Int)=0)=true:=VX oM
    simp only[Z,d,Vt,Vo,Vn]
    rw[AR,AU,Wy Z,WU (fun h=>h.2 hz)]
    simp[Xc]
   ·have d:decide ((m.fEscape.toNat:Int)=0)=false:=VY oM
    simp only[Z,d,VB,Vo]
    rw[AR,AU,Wy Z,Wy ⟨Z,hz⟩]
    simp[Xc]
  ·rw[AR,AU,WU Z,WU (fun h=>Z h.1)]
   simp only[WK] at Z
   simp only[Z,Vn]
   simp
 ·simp only[aB,Vn];rfl
 ·simp only[bZ]
  rw[bU oT]
  simp[zJ,Xc,Nat.add_comm]
def BF (m:ab) (r p:Nat):UInt8:=if 0<p then m.fPart else if 0<r then m.fRepeat else m.fElement
def JW (e r p:Nat):iy:=⟨((e+1:Nat):Int),((r+1:Nat):Int),((p+1:Nat):Int)⟩
def zK (m:ab) (e r:Nat):Nat->List UInt8->List Mp:=fun p t=>[⟨JW e r p,BF m r p,t⟩]
def zL (m:ab) (e:Nat):Nat->List (List UInt8)->List Mp:=fun r l=>en (zK m e r) 0 l
def AV (m:ab):Nat->ak->List Mp:=fun e x=>en (zL m e) 0 x.fRepeats
def B8 (m:ab) (s:aa):List Mp:=en (AV m) 0 s.fElements
def Cp (l:List Mp):Prop:=∀ p∈l,p.t.length<=1000
theorem TL {l:List (List UInt8)} (h:∀ t∈l,qP t=0):Cp (en (zK m e r) 0 l):=AP fun i t ht y hy=>by
 simp only[zK,V1] at hy;subst hy;exact IE (h t ht)
theorem TM (h:∀ t∈l,yM t=0):Cp (en (zL m e) 0 l):=AP fun i t ht y hy=>TL (G_ (h t ht)).2.2 y hy
theorem SI {l:List ak} (h:∀ t∈l,mD t=0):Cp (en (AV m) 0 l):=AP fun i t ht y hy=>TM (Eg (h t ht)).2.2 y hy
theorem TN {l:List (List UInt8)}:(en (zK m e r) 0 l).length<=l.length:=by
 have:=xt (f:=zK m e r) (b:=1) l 0 (fun i t ht=>by simp[zK])
 omega
theorem TO (h:∀ t∈l,yM t=0):(en (zL m e) 0 l).length<=l.length * 20:=xt l 0 fun i t ht=>Wz TN (G_ (h t ht)).1
theorem SJ {l:List ak} (h:∀ t∈l,mD t=0):(en (AV m) 0 l).length<=l.length * 400:=xt l 0 fun i t ht=>by
 have h1:=Eg (h t ht)
 have h2:=TO (m:=m) (e:=i) h1.2.2
 unfold AV
 omega
def nq (m:ab) (seg:Int) (w:RT) (l:List Mp):RT:=l.foldl (zJ m seg) w
def uf (w:RT) (i:Nat) (s:aa):RT:=(w.1++s.fTag,w.2.1++[⟨((i:Nat):Int),⟨0,0,0⟩,((w.1.length:Nat):Int),((w.1.length:Nat):Int),((w.1.length+s.fTag.length:Nat):Int)⟩],w.2.2)
def Ei (m:ab) (lines:Bool):List UInt8:=bif lines then[m.fEnd,10] else[m.fEnd]
def JX (m:ab) (lines:Bool) (i:Nat) (w:RT) (s:aa):RT:=((nq m (i:Int) (uf w i s) (B8 m s)).1++Ei m lines,(nq m (i:Int) (uf w i s) (B8 m s)).2)
def pa (m:ab) (lines:Bool):Nat->RT->List aa->RT
 |_,w,[]=>w
 |i,w,s::l=>pa m lines (i+1) (JX m lines i w s) l
theorem Ej (m:ab) (lines:Bool):∀ (l:List aa) (i:Nat) (w:RT) (s:aa),pa m lines i w (l++[s])=JX m lines (i+l.length) (pa m lines i w l) s
 |[],i,w,s=>rfl
 |x::l,i,w,s=>by
  simp only[VG,pa,Ej m lines l (i+1),Vk]
  rw[show i+1+l.length=i+(l.length+1) by omega]
def Bd (w:RT) (k:Nat):Prop:=w.1.length<=2010 * k/\w.2.1.length<=k/\w.2.2<=1000 * k
theorem Bd.mono {k':Nat} (h:Bd w k) (hk:k<=k'):Bd w k':=by
 obtain⟨h1,h2,E⟩:=h;exact⟨by omega,by omega,by omega⟩
theorem Bd.step {seg:Int} {p:Mp} (h:Bd w k) (Y:p.t.length<=1000):Bd (zJ m seg w p) (k+1):=by
 obtain⟨h1,h2,E⟩:=h
 have h4:=Eh m p.t
 have h5:=KS m p.t
 refine⟨?_, ?_, ?_⟩<;>simp only[zJ,Vl,Vk,Vp]<;>omega
theorem Bd.pts {m:ab} {seg:Int}:∀ {l:List Mp} {w:RT} {k:Nat},Bd w k->Cp l->Bd (nq m seg w l) (k+l.length)
 |[],w,k,h,_=>h
 |p::l,w,k,h,ht=>by
  have:=Bd.pts (m:=m) (seg:=seg) (l:=l) (h.step (m:=m) (seg:=seg) (ht p oS)) (fun q hq=>ht q (by simp[hq]))
  rw[show k+(p::l).length=k+1+l.length by simp;omega]
  exact this
theorem Bd.head {i:Nat} {s:aa} (h:Bd w k) (hs:s.fTag.length<=6):Bd (uf w i s) (k+1):=by
 obtain⟨h1,h2,E⟩:=h
 refine⟨?_, ?_, ?_⟩<;>simp only[uf,Vl,Vk,Vp]<;>omega
theorem Bd.tail {lines:Bool} (h:Bd w k):Bd (w.1++Ei m lines,w.2) (k+1):=by
 obtain⟨h1,h2,E⟩:=h
 refine⟨?_,by simp only;omega,by simp only;omega⟩
 simp only[Vl]
 cases lines<;>simp[Ei]<;>omega
theorem Bd.seg {w:RT} {k i:Nat} {m:ab} {lines:Bool} {s:aa} (h:Bd w k) (hs:xK s=0):Bd (JX m lines i w s) (k+20002):=by
 obtain⟨-,h1, -,h2,E⟩:=Hb hs
 have h4:=SJ (m:=m) E
 have:=((h.head (i:=i) h1).pts (m:=m) (seg:=(i:Int)) (l:=B8 m s) (SI E)).tail (m:=m) (lines:=lines)
 refine this.mono ?_
 unfold B8
 omega
theorem Bd.segs {m:ab} {lines:Bool}:∀ {l:List aa} {i:Nat} {w:RT} {k:Nat},Bd w k->(∀ s∈l,xK s=0)->Bd (pa m lines i w l) (k+l.length * 20002)
 |[],i,w,k,h,_=>by simpa[pa] using h
 |s::l,i,w,k,h,hs=>by
  have:=Bd.segs (m:=m) (lines:=lines) (l:=l) (i:=i+1) (h.seg (i:=i) (m:=m) (lines:=lines) (hs s oS)) (fun x hx=>hs x (by simp[hx]))
  refine this.mono ?_
  simp only[Vk];omega
theorem xc (m:ab) (seg:Int) (w:RT) (l l2:List Mp):nq m seg w (l++l2)=nq m seg (nq m seg w l) l2:=by simp[nq]
theorem L4 (l:List aa) (m:ab) (lines:Bool) (h:fJ l=0):
  i8 l m lines=some (some ⟨m,(pa m lines 0 ([],[],0) l).1,(pa m lines 0 ([],[],0) l).2.1,(((pa m lines 0 ([],[],0) l).2.2:Nat):Int)⟩):=by
 unfold i8 wq;dsimp only
 obtain⟨hl,hs⟩:=o_ h
 have P:Bd (([],[],0):RT) 0:=⟨by simp,by simp,by simp⟩
 refine dO (sn (a:= .inl (m,(pa m lines 0 ([],[],0) l).1,(pa m lines 0 ([],[],0) l).2.1,(((pa m lines 0 ([],[],0) l).2.2:Nat):Int),((l.length:Nat):Int))) l
  (fun i pre=>(m,(pa m lines 0 ([],[],0) pre).1,(pa m lines 0 ([],[],0) pre).2.1,(((pa m lines 0 ([],[],0) pre).2.2:Nat):Int),((i:Nat):Int))) (fun i s b=> ?_) ?_) ?_
 ·have hi:=b9 b
  have N:=wY b
  have j:=Bd.segs (m:=m) (lines:=lines) (i:=0) P (l:=l.take i) (fun s d=>hs s (zH d))
  rw[N] at j
  rw[Ej,N,VD]
  generalize G:pa m lines 0 ([],[],0) (l.take i)=w at j⊢
  obtain⟨-,f, -,K,y⟩:=Hb (hs s (Vq b))
  have F:=j.head (i:=i) f
  obtain⟨b1,b2,b3⟩:=j
  have c:IntKind.i64.wrap ((w.1.length:Int)+(s.fTag.length:Int))=((w.1.length+s.fTag.length:Nat):Int):=by rw[bk _ oM oM];simp
  simp only[aX hi,Vo,am,b,Vh,aW i oM,c]
  simp(disch:=(first|omega|(simp only[Vl,Vk,Vp];omega))) only[bU]
  refine dO (sn (a:= .inl (m,(nq m (i:Int) (uf w i s) (B8 m s)).1,(nq m (i:Int) (uf w i s) (B8 m s)).2.1,(((nq m (i:Int) (uf w i s) (B8 m s)).2.2:Nat):Int),((s.fElements.length:Nat):Int))) s.fElements
   (fun e pre=>(m,(nq m (i:Int) (uf w i s) (en (AV m) 0 pre)).1,(nq m (i:Int) (uf w i s) (en (AV m) 0 pre)).2.1,(((nq m (i:Int) (uf w i s) (en (AV m) 0 pre)).2.2:Nat):Int),((e:Nat):Int))) (fun e x k=> ?_) ?_) ?_
  ·have he:=b9 k
   have z:=wY k
   have H:∀ t∈s.fElements.take e,mD t=0:=fun t ht=>y t (zH ht)
   have I:=(F.pts (m:=m) (seg:=(i:Int)) (SI (m:=m) H)).mono (k':=i * 20002+1+e * 400) (by have:=SJ (m:=m) H;rw[z] at this;omega)
   rw[yJ,xc,z]
   generalize O:nq m (i:Int) (uf w i s) (en (AV m) 0 (s.fElements.take e))=w1 at I⊢
   obtain⟨Z, -,g⟩:=Eg (y x (Vq k))
   simp only[aX he,Vo,am,k,Vh,aW e oM]
   refine dO (sn (a:= .inl (m,(nq m (i:Int) w1 (AV m e x)).1,(nq m (i:Int) w1 (AV m e x)).2.1,(((nq m (i:Int) w1 (AV m e x)).2.2:Nat):Int),BF m x.fRepeats.length 0,((x.fRepeats.length:Nat):Int))) x.fRepeats
    (fun r pre=>(m,(nq m (i:Int) w1 (en (zL m e) 0 pre)).1,(nq m (i:Int) w1 (en (zL m e) 0 pre)).2.1,(((nq m (i:Int) w1 (en (zL m e) 0 pre)).2.2:Nat):Int),BF m r 0,((r:Nat):Int))) (fun r o q=> ?_) ?_) ?_
   ·have D:=b9 q
    have B:=wY q
    have C:∀ t∈x.fRepeats.take r,yM t=0:=fun t ht=>g t (zH ht)
    have L:=(I.pts (m:=m) (seg:=(i:Int)) (TM (m:=m) (e:=e) C)).mono (k':=i * 20002+1+e * 400+r * 20) (by have:=TO (m:=m) (e:=e) C;rw[B] at this;omega)
    rw[yJ,xc,B]
    generalize n:nq m (i:Int) w1 (en (zL m e) 0 (x.fRepeats.take r))=w2 at L⊢
    obtain⟨J, -,A⟩:=G_ (g o (Vq q))
    simp only[aX D,Vo,am,q,Vh,aW r oM]
    refine dO (sn (a:= .inl (m,(nq m (i:Int) w2 (zL m e r o)).1,(nq m (i:Int) w2 (zL m e r o)).2.1,(((nq m (i:Int) w2 (zL m e r o)).2.2:Nat):Int),BF m r o.length,((o.length:Nat):Int))) o
     (fun p pre=>(m,(nq m (i:Int) w2 (en (zK m e r) 0 pre)).1,(nq m (i:Int) w2 (en (zK m e r) 0 pre)).2.1,(((nq m (i:Int) w2 (en (zK m e r) 0 pre)).2.2:Nat):Int),BF m r p,((p:Nat):Int))) (fun p t u=> ?_) ?_) ?_
    ·have Y:=b9 u
     have E:=wY u
     have Q:∀ t∈o.take p,qP t=0:=fun t ht=>A t (zH ht)
     have M:=(L.pts (m:=m) (seg:=(i:Int)) (TL (m:=m) (e:=e) (r:=r) Q)).mono (k':=i * 20002+1+e * 400+r * 20+p) (by have:=TN (m:=m) (e:=e) (r:=r) (l:=o.take p);rw[E] at this;omega)
     rw[yJ,xc,E]
     generalize R:nq m (i:Int) w2 (en (zK m e r) 0 (o.take p))=w3 at M⊢
     obtain⟨T,c2,S⟩:=M
     have f:=IE (A t (Vq u))
     simp only[aX Y,Vo,am,u,Vh,aW p oM]
     have:=SH m w3.1 w3.2.1 w3.2.2 (i:Int) (JW e r p) (BF m r p) t f oM oM oM
     unfold JW at this
     rw[this]
     simp only[Vh]
     rfl
    ·simp only[aB,Vn];rfl
    ·rfl
   ·simp only[am,aB,Vn];rfl
   ·rfl
  ·simp only[aB,Vn];rfl
  ·have v:=F.pts (m:=m) (seg:=(i:Int)) (l:=B8 m s) (SI y)
   have h4:=SJ (m:=m) y
   have v:=v.mono (k':=i * 20002+20001) (by unfold B8;omega)
   simp only[bZ,JX]
   generalize nq m (i:Int) (uf w i s) (B8 m s)=w1 at v⊢
   obtain⟨T,c2,S⟩:=v
   simp(disch:=(first|omega|(simp only[Vl,Vk,Vp];omega))) only[bU]
   cases lines with
   |true=>simp[Ei]
   |false=>simp[Ei]
 ·simp only[aB,Vn];rfl
 ·rfl

variable {b:List UInt8}
def IV:ab:=⟨0,0,0,0,0⟩
def no:List UInt8->List UInt8->Nat->Option Int
 |[],_,_=>none
 |_::_,[],i=>some (i:Int)
 |c::cs,b::bs,i=>if b=c then no cs bs (i+1) else some (i:Int)
def o8 (b:List UInt8):ab×Int×Int:=
 match no [77,82,75] b 0 with
 |some i=>(IV,i,10)
 |none=>match b with
  |[_,_,_,a,p,r,e,z]=>mk a p r e z
  |_::_::_::a::p::r::e::z::_=>mk a p r e z
  |b=>(IV,(b.length:Int),10)
where mk (a p r e z:UInt8):ab×Int×Int:=
 if e=0 then(IV,3,3) else if jS ⟨a,p,r,if e=32 then 0 else e,z⟩=0 then(⟨a,p,r,if e=32 then 0 else e,z⟩,0,0) else(IV,3,jS ⟨a,p,r,if e=32 then 0 else e,z⟩)
theorem Cn (a c:UInt8):decide ((a.toNat:Int)=(c.toNat:Int))=decide (a=c):=by
 congr 1
 apply propext
 exact⟨fun h=>W4.1 oM,fun h=>by rw[h]⟩
theorem Q5 (a p r e z:UInt8) (f:ab->Option Int) (C:∀ m,f m=some (jS m)):
  (bif decide ((e.toNat:Int)=32) then(f ⟨a,p,r,UInt8.ofNat (Int.toNat 0),z⟩).bind fun x=>bif !decide (x=0) then some ((⟨UInt8.ofNat (Int.toNat 0),UInt8.ofNat (Int.toNat 0),UInt8.ofNat (Int.toNat 0),UInt8.ofNat (Int.toNat 0),UInt8.ofNat (Int.toNat 0)⟩:ab),(3:Int),x) else some (⟨a,p,r,UInt8.ofNat (Int.toNat 0),z⟩,0,0)
   else(f ⟨a,p,r,e,z⟩).bind fun x=>bif !decide (x=0) then some ((⟨UInt8.ofNat (Int.toNat 0),UInt8.ofNat (Int.toNat 0),UInt8.ofNat (Int.toNat 0),UInt8.ofNat (Int.toNat 0),UInt8.ofNat (Int.toNat 0)⟩:ab),(3:Int),x) else some (⟨a,p,r,e,z⟩,0,0))=
  some (if jS ⟨a,p,r,if e=32 then 0 else e,z⟩=0 then(⟨a,p,r,if e=32 then 0 else e,z⟩,0,0) else(IV,3,jS ⟨a,p,r,if e=32 then 0 else e,z⟩)):=by
 have z0:UInt8.ofNat (Int.toNat 0)=0:=rfl
 simp only[C,Vh,z0]
 have c:decide ((e.toNat:Int)=32)=decide (e=32):=Cn e 32
 rw[c]
 by_cases h:e=32
 ·simp only[h,VS,Vo,VW]
  by_cases Z:jS ⟨a,p,r,0,z⟩=0<;>simp[Z,IV]
 ·simp only[h,Xh,Vn,VQ]
  by_cases Z:jS ⟨a,p,r,e,z⟩=0<;>simp[Z,IV]
theorem KQ (e:UInt8):decide ((e.toNat:Int)=0)=decide (e=0):=Cn e 0
theorem FW {f:ab×Int->Option (ab×Int⊕(ab×Int⊕(ab×Int×Int)))} (b:List UInt8) (m:ab) (hb:∀ (i:Nat),i<3->f (m,(i:Int))=(match b[i]? with|none=>some (.inr (.inr (IV,(i:Int),10)))|some x=>if some x=([77,82,75]:List UInt8)[i]? then some (.inl (m,((i+1:Nat):Int))) else some (.inr (.inr (IV,(i:Int),10))))) (he:f (m,3)=some (.inr (.inl (m,3)))):bn f (m,0)=some (match no [77,82,75] b 0 with|some i=> .inr (IV,i,10)|none=> .inl (m,3)):=by
 have h0:=hb 0 oM
 have h1:=hb 1 oM
 have h2:=hb 2 oM
 have e0:f (m,0)=f (m,((0:Nat):Int)):=rfl
 rw[bS,e0,h0]
 cases b with
 |nil=>simp[no]
 |cons x b=>
  simp only[VZ,Vi,no]
  by_cases hx:x=77
  ·simp only[hx,VW]
   rw[bS,h1]
   cases b with
   |nil=>simp[no]
   |cons y b=>
    simp only[Wl,VZ,Vi,no]
    by_cases hy:y=82
    ·simp only[hy,VW]
     rw[bS,h2]
     cases b with
     |nil=>simp[no]
     |cons z b=>
      simp only[Wl,VZ,Vi,no]
      by_cases hz:z=75
      ·simp only[hz,VW]
       have e3:f (m,((2+1:Nat):Int))=some (.inr (.inl (m,3))):=he
       rw[bS,e3]
      ·simp only[hz,VQ];try rfl
    ·simp only[hy,VQ];try rfl
  ·simp only[hx,VQ];try rfl
theorem yL {a0 a1 a2 a p r e z:UInt8} {t:List UInt8} (hb:b=a0::a1::a2::a::p::r::e::z::t) (h:no [77,82,75] b 0=none):o8 b=o8.mk a p r e z:=by
 unfold o8
 rw[h]
 subst hb
 cases t<;>rfl
theorem wZ (hb:b.length<8) (h:no [77,82,75] b 0=none):o8 b=(IV,(b.length:Int),10):=by
 unfold o8
 rw[h]
 match b,hb with
 |[],_=>rfl
 |[_],_=>rfl
 |[_,_],_=>rfl
 |[_,_,_],_=>rfl
 |[_,_,_,_],_=>rfl
 |[_,_,_,_,_],_=>rfl
 |[_,_,_,_,_,_],_=>rfl
 |[_,_,_,_,_,_,_],_=>rfl
 |_::_::_::_::_::_::_::_::t,hb=>simp at hb;omega
theorem G8 (hb:¬ b.length<8):∃ a0 a1 a2 a p r e z t,b=a0::a1::a2::a::p::r::e::z::t:=by
 match b,hb with
 |[],hb=>simp at hb
 |[_],hb=>simp at hb
 |[_,_],hb=>simp at hb
 |[_,_,_],hb=>simp at hb
 |[_,_,_,_],hb=>simp at hb
 |[_,_,_,_,_],hb=>simp at hb
 |[_,_,_,_,_,_],hb=>simp at hb
 |[_,_,_,_,_,_,_],hb=>simp at hb
 |a0::a1::a2::a::p::r::e::z::t,_=>exact⟨a0,a1,a2,a,p,r,e,z,t,rfl⟩
theorem w_ (b:List UInt8) (hl:b.length<=9223372036854775807):nw b=some (o8 b):=by
 unfold nw nK;dsimp only
 refine dO (FW b ⟨UInt8.ofNat (Int.toNat 0),UInt8.ofNat (Int.toNat 0),UInt8.ofNat (Int.toNat 0),UInt8.ofNat (Int.toNat 0),UInt8.ofNat (Int.toNat 0)⟩ (fun i hi=> ?_) ?_) ?_
 ·have q:decide ((i:Int)<3)=true:=VX oM
  obtain⟨c,hc⟩:=dl (l:=([77,82,75]:List UInt8)) (i:=i) hi
  cases m:b[i]? with
  |none=>
   have I:b.length<=i:=Xl.1 m
   have d:decide ((b.length:Int)<=(i:Int))=true:=VX oM
   simp only[q,Vo,d,IU,Vh]
   rfl
  |some x=>
   have I:=b9 m
   have d:decide ((b.length:Int)<=(i:Int))=false:=VY oM
   simp only[q,Vo,d,IU,Vn,am,m,hc,Vh,Cn,aW i oM,Vi]
   by_cases hx:x=c
   ·simp only[hx,VS,Vt,Vn,VW]
   ·simp only[hx,Xh,VB,Vo,VQ]
    rfl
 ·rfl
 ·cases hh:no [77,82,75] b 0 with
  |some i=>
   simp only[bZ]
   unfold o8
   rw[hh]
  |none=>
   simp only[bZ]
   by_cases h8:b.length<8
   ·have d:decide ((b.length:Int)<8)=true:=VX oM
    rw[wZ h8 hh]
    simp only[d,Vo]
    rfl
   ·have d:decide ((b.length:Int)<8)=false:=VY oM
    obtain⟨a0,a1,a2,a,p,r,e,z,t,rfl⟩:=G8 h8
    rw[yL rfl hh]
    have g3:aV (a0::a1::a2::a::p::r::e::z::t) 3=some a:=rfl
    have g4:aV (a0::a1::a2::a::p::r::e::z::t) 4=some p:=rfl
    have g5:aV (a0::a1::a2::a::p::r::e::z::t) 5=some r:=rfl
    have g6:aV (a0::a1::a2::a::p::r::e::z::t) 6=some e:=rfl
    have g7:aV (a0::a1::a2::a::p::r::e::z::t) 7=some z:=rfl
    simp only[d,Vn,g3,g4,g5,g6,g7,Vh,KQ]
    unfold o8.mk
    by_cases he:e=0
    ·simp only[he,VS,Vo,VW]
     rfl
    ·simp only[he,Xh,Vn,VQ]
     exact Q5 a p r e z gX KR
theorem xa (b:List UInt8) (hl:b.length<=9223372036854775807):gJ b=some (o8 b):=by
 unfold gJ nK;dsimp only
 refine dO (FW b ⟨UInt8.ofNat (Int.toNat 0),UInt8.ofNat (Int.toNat 0),UInt8.ofNat (Int.toNat 0),UInt8.ofNat (Int.toNat 0),UInt8.ofNat (Int.toNat 0)⟩ (fun i hi=> ?_) ?_) ?_
 ·have q:decide ((i:Int)<3)=true:=VX oM
  obtain⟨c,hc⟩:=dl (l:=([77,82,75]:List UInt8)) (i:=i) hi
  cases m:b[i]? with
  |none=>
   have I:b.length<=i:=Xl.1 m
   have d:decide ((b.length:Int)<=(i:Int))=true:=VX oM
   simp only[q,Vo,d,IU,Vh]
   rfl
  |some x=>
   have I:=b9 m
   have d:decide ((b.length:Int)<=(i:Int))=false:=VY oM
   simp only[q,Vo,d,IU,Vn,am,m,hc,Vh,Cn,aW i oM,Vi]
   by_cases hx:x=c
   ·simp only[hx,VS,Vt,Vn,VW]
   ·simp only[hx,Xh,VB,Vo,VQ]
    rfl
 ·rfl
 ·cases hh:no [77,82,75] b 0 with
  |some i=>
   simp only[bZ]
   unfold o8
   rw[hh]
  |none=>
   simp only[bZ]
   by_cases h8:b.length<8
   ·have d:decide ((b.length:Int)<8)=true:=VX oM
    rw[wZ h8 hh]
    simp only[d,Vo]
    rfl
   ·have d:decide ((b.length:Int)<8)=false:=VY oM
    obtain⟨a0,a1,a2,a,p,r,e,z,t,rfl⟩:=G8 h8
    rw[yL rfl hh]
    have g3:aV (a0::a1::a2::a::p::r::e::z::t) 3=some a:=rfl
    have g4:aV (a0::a1::a2::a::p::r::e::z::t) 4=some p:=rfl
    have g5:aV (a0::a1::a2::a::p::r::e::z::t) 5=some r:=rfl
    have g6:aV (a0::a1::a2::a::p::r::e::z::t) 6=some e:=rfl
    have g7:aV (a0::a1::a2::a::p::r::e::z::t) 7=some z:=rfl
    simp only[d,Vn,g3,g4,g5,g6,g7,Vh,KQ]
    unfold o8.mk
    by_cases he:e=0
    ·simp only[he,VS,Vo,VW]
     rfl
    ·simp only[he,Xh,Vn,VQ]
     exact Q5 a p r e z eW Qo
variable {m:ab} {q r:List UInt8}
def zY (m:ab) (x:UInt8):Bool:= !decide ((m.fEscape.toNat:Int)=0)&&decide ((x.toNat:Int)=(m.fEscape.toNat:Int))
def MM (x:UInt8):Bool:=decide ((x.toNat:Int)<32)||decide ((126:Int)<(x.toNat:Int))
def dm (m:ab):List UInt8->List UInt8⊕(List UInt8×List UInt8)
 |[]=> .inl []
 |x::r=>
  if zY m x=true then
   match r with
   |[]=> .inl []
   |y::r=>if Co m y=true then(match dm m r with| .inl q=> .inl q| .inr (o,q)=> .inr (y::o,q)) else .inl (y::r)
  else if Co m x=true then .inr ([],x::r)
  else if MM x=true then .inl (x::r)
  else match dm m r with| .inl q=> .inl q| .inr (o,q)=> .inr (x::o,q)
theorem yd (m:ab):∀ (n:Nat) (r:List UInt8),r.length<=n->∀ q,dm m r= .inl q->q.length<=r.length
 |n,[],_,q,h=>by rw[dm] at h;cases h;exact Vs _
 |0,x::r,h,_,_=>by simp at h
 |n+1,x::r,hn,q,h=>by
  have D:r.length<=n:=by simpa using hn
  unfold dm at h
  split at h
  ·cases r with
   |nil=>cases h;simp
   |cons y r=>
    simp only at h
    split at h
    ·cases Y:dm m r with
     |inl p=>
      rw[Y] at h
      have:=yd m n r (by simp at D;omega) p Y
      cases h
      simp only[Vk];omega
     |inr a=>rw[Y] at h;cases h
    ·cases h;simp
  ·split at h
   ·cases h
   ·split at h
    ·cases h;exact Vs _
    ·cases Y:dm m r with
     |inl p=>
      rw[Y] at h
      have:=yd m n r D p Y
      cases h
      simp only[Vk];omega
     |inr a=>rw[Y] at h;cases h
theorem ye (m:ab):∀ (n:Nat) (r:List UInt8),r.length<=n->∀ o q,dm m r= .inr (o,q)->q.length<=r.length/\o.length+q.length<=r.length/\∃ x t,q=x::t/\Co m x=true/\zY m x=false
 |n,[],_,_,q,h=>by rw[dm] at h;cases h
 |0,x::r,h,_,_,_=>by simp at h
 |n+1,x::r,hn,o,q,h=>by
  have D:r.length<=n:=by simpa using hn
  unfold dm at h
  split at h
  ·cases r with
   |nil=>cases h
   |cons y r=>
    simp only at h
    split at h
    ·cases Y:dm m r with
     |inl p=>rw[Y] at h;cases h
     |inr a=>
      obtain⟨o',p⟩:=a
      rw[Y] at h
      obtain⟨h1,h2,E⟩:=ye m n r (by simp at D;omega) o' p Y
      cases h
      simp only[Vk]
      exact⟨by omega,by omega,E⟩
    ·cases h
  ·rename_i he
   split at h
   ·rename_i Z
    cases h
    simp only[Vk,Vp]
    exact⟨by omega,by omega,x,r,rfl,Z,by simpa using he⟩
   ·split at h
    ·cases h
    ·cases Y:dm m r with
     |inl p=>rw[Y] at h;cases h
     |inr a=>
      obtain⟨o',p⟩:=a
      rw[Y] at h
      obtain⟨h1,h2,E⟩:=ye m n r D o' p Y
      cases h
      simp only[Vk]
      exact⟨by omega,by omega,E⟩
theorem Lh (h:dm m r= .inl q):q.length<=r.length:=yd m r.length r (Vs _) q h
theorem pC {o:List UInt8} (h:dm m r= .inr (o,q)):q.length<=r.length/\o.length+q.length<=r.length/\∃ x t,q=x::t/\Co m x=true/\zY m x=false:=ye m r.length r (Vs _) o q h
variable {acc:List ak} {k:UInt8} {m:ab}
abbrev ce:=List UInt8
variable {q r:ce} {res:ce⊕(List (List ce)×ce)} {t:ce} {xs:List (List ce)}
def Gb (ys:List (List ce)) (t:ce):List (List ce):=ys.set (ys.length - 1) (ys[ys.length - 1]?.getD []++[t])
theorem jb (ys:List (List ce)) (p:List ce) (t:ce):Gb (ys++[p]) t=ys++[p++[t]]:=by
 unfold Gb
 simp only[Vl,Vk,Vp,VD,Xj,VP (Vs _),Wn,VZ,Wi,We _ _ (Vs _),Xi]
theorem Hy (ys:List (List ce)) (t:ce):(Gb ys t).length=ys.length:=by unfold Gb;simp
def pg (m:ab) (k:UInt8) (xs:List (List ce)) (t:ce):List (List ce):=if k=m.fRepeat then Gb (xs++[[]]) t else Gb xs t
theorem Kh (h:k=m.fRepeat\/xs≠[]):pg m k xs t≠[]:=by
 unfold pg
 intro h0
 split at h0
 ·have:=Wf List.length h0
  rw[Hy] at this;simp at this
 ·rename_i hk
  have:=Wf List.length h0
  rw[Hy] at this
  rcases h with h|h
  ·exact hk h
  ·exact h (Vx.1 (by simpa using this))
inductive I7 (m:ab):UInt8->List (List ce)->ce->ce⊕(List (List ce)×ce)->Prop
 |bad {k xs r q:_}:dm m r= .inl q->I7 m k xs r (.inl q)
 |fin {k xs r t y q:_}:dm m r= .inr (t,y::q)->(y=m.fElement\/y=m.fEnd)->I7 m k xs r (.inr (pg m k xs t,y::q))
 |more {k xs r t y q res:_}:dm m r= .inr (t,y::q)->¬ (y=m.fElement\/y=m.fEnd)->I7 m y (pg m k xs t) q res->I7 m k xs r res
theorem MN (m:ab):∀ (n:Nat) (r:ce),r.length<=n->∀ k xs,∃ res,I7 m k xs r res:=by
 intro n
 induction n with
 |zero=>
  intro r D k xs
  have:r=[]:=Vx.1 oM
  subst this
  exact⟨_,.bad (by rw[dm])⟩
 |succ n ih=>
  intro r D k xs
  cases Y:dm m r with
  |inl q=>exact⟨_,.bad Y⟩
  |inr a=>
   obtain⟨t,q⟩:=a
   obtain⟨h1,_,y,q',rfl,_⟩:=pC Y
   by_cases hy:y=m.fElement\/y=m.fEnd
   ·exact⟨_,.fin Y hy⟩
   ·obtain⟨res,F⟩:=ih q' (by simp only[Vk] at h1;omega) y (pg m k xs t)
    exact⟨res,.more Y hy F⟩
theorem I8 (h:I7 m k xs r res):∀ U q',res= .inr (U,q')->q'.length<=r.length/\∃ y q,q'=y::q/\(y=m.fElement\/y=m.fEnd):=by
 induction h with
 |bad=>intro _ _ h;cases h
 |fin Y hy=>
  intro U q' h
  cases h
  exact⟨(pC Y).1,_,_,rfl,hy⟩
 |more Y hy _ ih=>
  intro U q' h
  obtain⟨h1,h2⟩:=ih U q' h
  have:=(pC Y).1
  simp only[Vk] at this
  exact⟨by omega,h2⟩
theorem Rt (h:I7 m k xs r res):∀ q',res= .inl q'->q'.length<=r.length:=by
 induction h with
 |bad Y=>intro _ h;cases h;exact Lh Y
 |fin Y hy=>intro _ h;cases h
 |more Y hy _ ih=>
  intro q' h
  have h1:=ih q' h
  have:=(pC Y).1
  simp only[Vk] at this
  omega
inductive zZ (m:ab):List ak->ce->ce⊕(List ak×ce)->Prop
 |fin {acc y q:_}:y≠m.fElement->zZ m acc (y::q) (.inr (acc,y::q))
 |bad {acc q p:_}:I7 m m.fRepeat [] q (.inl p)->zZ m acc (m.fElement::q) (.inl p)
 |more {acc q xs q' res:_}:I7 m m.fRepeat [] q (.inr (xs,q'))->zZ m (acc++[⟨xs⟩]) q' res->zZ m acc (m.fElement::q) res
theorem Li (m:ab):∀ (n:Nat) (r:ce),r.length<=n->(∃ y q,r=y::q)->∀ acc,∃ res,zZ m acc r res:=by
 intro n
 induction n with
 |zero=>intro r D h;obtain⟨y,q,rfl⟩:=h;simp at D
 |succ n ih=>
  intro r D h acc
  obtain⟨y,q,rfl⟩:=h
  by_cases hy:y=m.fElement
  ·subst hy
   obtain⟨res,F⟩:=MN m q.length q (Vs _) m.fRepeat []
   cases res with
   |inl p=>exact⟨_,.bad F⟩
   |inr a=>
    obtain⟨xs,q'⟩:=a
    obtain⟨h1,y,q2,h2,_⟩:=I8 F xs q' rfl
    obtain⟨res,r9⟩:=ih q' (by simp only[Vk] at D;omega) ⟨y,q2,h2⟩ (acc++[⟨xs⟩])
    exact⟨res,.more F r9⟩
  ·exact⟨_,.fin hy⟩
theorem Gc {res:ce⊕(List ak×ce)} (h:zZ m acc r res):(∀ a q',res= .inr (a,q')->q'.length<=r.length/\∃ y q,q'=y::q/\y≠m.fElement)/\∀ q',res= .inl q'->q'.length<=r.length:=by
 induction h with
 |fin hy=>exact⟨fun _ _ h=>by cases h;exact⟨Vs _,_,_,rfl,hy⟩,fun _ h=>by cases h⟩
 |bad he=>exact⟨fun _ _ h=>(by cases h),fun q' h=>by cases h;have:=Rt he _ rfl;simp only[Vk];omega⟩
 |more he _ ih=>
  have h1:=(I8 he _ _ rfl).1
  exact⟨fun a q' h=>by have:=ih.1 a q' h;simp only[Vk];exact⟨by omega,this.2⟩,fun q' h=>by have:=ih.2 q' h;simp only[Vk];omega⟩
def Hz (m:ab) (acc:List ak) (k:UInt8) (t:ce):List ak:=
 if k=m.fElement then acc++[⟨[[t]]⟩] else acc.set (acc.length - 1) ⟨if k=m.fRepeat then(acc[acc.length - 1]?.getD ⟨[]⟩).fRepeats++[[t]] else Gb (acc[acc.length - 1]?.getD ⟨[]⟩).fRepeats t⟩
theorem E6 (hk:k≠m.fElement):Hz m (acc++[⟨xs⟩]) k t=acc++[⟨pg m k xs t⟩]:=by
 unfold Hz pg
 rw[WU hk]
 simp only[Vl,Vk,Vp,VD,Xj,VP (Vs _),Wn,VZ,Wi,We _ _ (Vs _),Xi,jb,VC]
inductive OV (m:ab):List ak->ce->ce⊕(List ak×ce)->Prop
 |fin {acc q:_}:OV m acc (m.fEnd::q) (.inr (acc,m.fEnd::q))
 |bad {acc y q p:_}:y≠m.fEnd->dm m q= .inl p->OV m acc (y::q) (.inl p)
 |more {acc y q t q' res:_}:y≠m.fEnd->dm m q= .inr (t,q')->OV m (Hz m acc y t) q' res->OV m acc (y::q) res
theorem QP (h:I7 m k xs r res):
  ∀ (A acc:List ak) (y:UInt8),y≠m.fEnd->(∀ t,Hz m A y t=acc++[⟨pg m k xs t⟩])->
   (∀ p,res= .inl p->OV m A (y::r) (.inl p))/\∀ U q',res= .inr (U,q')->∀ a,OV m (acc++[⟨U⟩]) q' a->OV m A (y::r) a:=by
 induction h with
 |bad Y=>exact fun A acc y hy hu=>⟨fun p h=>by cases h;exact .bad hy Y,fun _ _ h=>by cases h⟩
 |fin Y s4=>exact fun A acc y hy hu=>⟨fun p h=>(by cases h),fun U q' h a C=>by cases h;rw[<-hu] at C;exact .more hy Y C⟩
 |more Y s4 _ ih=>
  intro A acc y hy hu
  have:=ih (acc++[⟨_⟩]) acc _ (fun h=>s4 (.inr h)) (fun t=>E6 fun h=>s4 (.inl h))
  refine⟨fun p h=> ?_,fun U q' h a C=> ?_⟩
  ·have h1:=this.1 p h
   rw[<-hu] at h1
   exact .more hy Y h1
  ·have h1:=this.2 U q' h a C
   rw[<-hu] at h1
   exact .more hy Y h1
theorem MO (hE:m.fElement≠m.fEnd) {res:ce⊕(List ak×ce)} (h:zZ m acc r res):(∀ y q,r=y::q->y=m.fElement\/y=m.fEnd)->OV m acc r res:=by
 have hu:∀ (A:List ak) t,Hz m A m.fElement t=A++[⟨pg m m.fRepeat [] t⟩]:=fun A t=>by
  unfold Hz pg
  rw[Wy rfl,Wy rfl]
  have:Gb ([]++[[]]) t=[[t]]:=jb [] [] t
  rw[this]
 induction h with
 |fin hy=>
  intro h
  rcases h _ _ rfl with h1|h1
  ·exact absurd h1 hy
  ·subst h1;exact .fin
 |bad he=>exact fun _=>((QP he) _ _ _ hE (hu _)).1 _ rfl
 |more he _ ih=>
  intro _
  refine((QP he) _ _ _ hE (hu _)).2 _ _ rfl _ (ih ?_)
  obtain⟨_,y',q2,h2,E⟩:=I8 he _ _ rfl
  intro y q h4
  rw[h2] at h4
  cases h4
  exact E
def fN (m:ab) (b:UInt8):Bool:=ud b m.fElement||ud b m.fEnd
def pX (l:ce):Bool:=(match l with|[]=>true|b::l=>vq b&&l.all uV)&&decide (l.length<=6)
def vl (m:ab) (r:ce):ce⊕(ce×ce):=
 match r.dropWhile (fun b=> !fN m b) with
 |[]=> .inl (if pX r=true then[] else r)
 |y::q=>if q6 (r.takeWhile fun b=> !fN m b)=true then .inr (r.takeWhile (fun b=> !fN m b),y::q) else .inl r
theorem uo (a b:UInt8):ud a b=true↔a=b:=by
 unfold ud
 rw[Vv]
 constructor
 ·intro h;exact W4.1 oM
 ·intro h;rw[h]
theorem p0 {s:ce} (h:vl m r= .inr (s,q)):r=s++q/\(∃ y q',q=y::q'/\(y=m.fElement\/y=m.fEnd))/\q6 s=true:=by
 unfold vl at h
 split at h
 ·cases h
 ·rename_i y q' hd
  split at h
  ·rename_i ht
   cases h
   refine⟨?_,⟨y,q',rfl, ?_⟩,ht⟩
   ·have:=W9 (p:=fun b=> !fN m b) (l:=r)
    rw[hd] at this
    exact this.symm
   ·have:=o9 hd
    simp only[Bool.not_eq_false',fN,V8,uo] at this
    exact this
  ·cases h
theorem MP (h:vl m r= .inl q):q=[]\/q=r:=by
 unfold vl at h
 split at h
 ·cases h;split
  ·exact .inl rfl
  ·exact .inr rfl
 ·split at h
  ·cases h
  ·cases h;exact .inr rfl
inductive xy (m:ab):ce->ce⊕(aa×ce)->Prop
 |tag {r q:_}:vl m r= .inl q->xy m r (.inl q)
 |bad {r s q p:_}:vl m r= .inr (s,q)->zZ m [] q (.inl p)->xy m r (.inl p)
 |ok {r s q els y q':_}:vl m r= .inr (s,q)->zZ m [] q (.inr (els,y::q'))->xy m r (.inr (⟨s,els⟩,q'))
theorem Lj (m:ab) (r:ce):∃ res,xy m r res:=by
 cases ht:vl m r with
 |inl q=>exact⟨_,.tag ht⟩
 |inr sq=>
  obtain⟨s,q⟩:=sq
  obtain⟨_,⟨y,q',h1,_⟩,_⟩:=p0 ht
  obtain⟨res,F⟩:=Li m q.length q (Vs _) ⟨y,q',h1⟩ []
  cases res with
  |inl p=>exact⟨_,.bad ht F⟩
  |inr a=>
   obtain⟨els,q2⟩:=a
   obtain⟨_,b,q3,rfl,_⟩:=(Gc F).1 _ _ rfl
   exact⟨_,.ok ht F⟩
theorem CG {res:ce⊕(aa×ce)} (h:xy m r res):(∀ q,res= .inl q->q.length<=r.length)/\∀ s q,res= .inr (s,q)->q.length<r.length:=by
 cases h with
 |tag ht=>
  refine⟨fun q h=> ?_,fun _ _ h=>by cases h⟩
  cases h
  rcases MP ht with rfl|rfl
  ·simp
  ·exact Vs _
 |bad ht he=>
  refine⟨fun q h=> ?_,fun _ _ h=>by cases h⟩
  cases h
  have h1:=(Gc he).2 _ rfl
  have h2:=Wf List.length (p0 ht).1
  rw[Vl] at h2
  omega
 |ok ht he=>
  refine⟨fun q h=>(by cases h),fun s q h=> ?_⟩
  cases h
  have h1:=((Gc he).1 _ _ rfl).1
  have h2:=Wf List.length (p0 ht).1
  rw[Vl] at h2
  simp only[Vk] at h1
  omega
def ei (q:ce):Bool:=match q with|10::_=>true|_=>false
inductive sy (m:ab):List aa->Bool->ce->ce⊕(List aa×Bool)->Prop
 |nil {out ln:_}:sy m out ln [] (.inr (out,ln))
 |bad {out ln r q:_}:r≠[]->xy m r (.inl q)->sy m out ln r (.inl q)
 |stop {out ln r s q:_}:r≠[]->xy m r (.inr (s,q))->out≠[]->ln≠ei q->sy m out ln r (.inl q)
 |more {out ln r s q res:_}:r≠[]->xy m r (.inr (s,q))->(out=[]\/ln=ei q)->sy m (out++[s]) (ei q) (if ei q=true then q.tail else q) res->sy m out ln r res
theorem Lk (m:ab):∀ (n:Nat) (r:ce),r.length<=n->∀ out ln,∃ res,sy m out ln r res:=by
 intro n
 induction n with
 |zero=>
  intro r D out ln
  have:r=[]:=Vx.1 oM
  subst this
  exact⟨_,.nil⟩
 |succ n ih=>
  intro r D out ln
  by_cases h0:r=[]
  ·subst h0;exact⟨_,.nil⟩
  ·obtain⟨res,hs⟩:=Lj m r
   cases res with
   |inl q=>exact⟨_,.bad h0 hs⟩
   |inr sq=>
    obtain⟨s,q⟩:=sq
    have hl:=(CG hs).2 _ _ rfl
    by_cases hc:out=[]\/ln=ei q
    ·obtain⟨res,r9⟩:=ih (if ei q=true then q.tail else q) (by split;(· simp only[List.length_tail];omega);(· omega)) (out++[s]) (ei q)
     exact⟨_,.more h0 hs hc r9⟩
    ·exact⟨_,.stop h0 hs (fun h=>hc (.inl h)) (fun h=>hc (.inr h))⟩
variable {A R S X α:Type} {f:S->Option (S⊕A)} {k:A->Option R}
theorem pZ {c:Option R} (st:X->S) (g:X->Nat) (P:X->Prop) (h:∀ x,P x->(∃ y,P y/\g y<g x/\f (st x)=some (.inl (st y)))\/(∃ a,f (st x)=some (.inr a)/\k a=c)) (x:X) (hx:P x):(bn f (st x)).bind k=c:=by
 have:∀ n x,g x<=n->P x->(bn f (st x)).bind k=c:=by
  intro n
  induction n with
  |zero=>
   intro x hn hx
   rcases h x hx with⟨y,_,h2,_⟩|⟨a,h1,h2⟩
   ·omega
   ·rw[bS,h1];exact h2
  |succ n ih=>
   intro x hn hx
   rcases h x hx with⟨y,h1,h2,E⟩|⟨a,h1,h2⟩
   ·rw[bS,E];exact ih y oM h1
   ·rw[bS,h1];exact h2
 exact this (g x) x (Vs _) hx
theorem nn {C:R->Prop} (st:X->S) (g:X->Nat) (P:X->Prop) (h:∀ x,P x->(∃ y,P y/\g y<g x/\f (st x)=some (.inl (st y)))\/(∃ a c,f (st x)=some (.inr a)/\k a=some c/\C c)) (x:X) (hx:P x):∃ c,(bn f (st x)).bind k=some c/\C c:=by
 have:∀ n x,g x<=n->P x->∃ c,(bn f (st x)).bind k=some c/\C c:=by
  intro n
  induction n with
  |zero=>
   intro x hn hx
   rcases h x hx with⟨y,_,h2,_⟩|⟨a,c,h1,h2,E⟩
   ·omega
   ·rw[bS,h1];exact⟨c,h2,E⟩
  |succ n ih=>
   intro x hn hx
   rcases h x hx with⟨y,h1,h2,E⟩|⟨a,c,h1,h2,E⟩
   ·rw[bS,E];exact ih y oM h1
   ·rw[bS,h1];exact⟨c,h2,E⟩
 exact this (g x) x (Vs _) hx
theorem xu (l:List α) (q:α->Bool) (a:R) {f:Int->Option (Int⊕(Int⊕R))} {K:Int->Option R} (hb:∀ (i:Nat) (e:α),l[i]?=some e->f (i:Int)=if q e=true then some (.inl ((i+1:Nat):Int)) else some (.inr (.inr a))) (he:f (l.length:Int)=some (.inr (.inl (l.length:Int)))):
  (bn f 0).bind (bZ K)=if l.all q=true then K (l.length:Int) else some a:=by
 refine pZ (X:=Nat) (fun i=>((i:Nat):Int)) (fun i=>l.length - i) (fun i=>i<=l.length/\(l.take i).all q=true) ?_ 0 ⟨V0 _,rfl⟩
 rintro i ⟨h1,h2⟩
 rcases VR i l.length with hi|hi
 ·obtain⟨e,hx⟩:=dl hi
  cases hq:q e with
  |true=>
   refine .inl ⟨i+1,⟨hi, ?_⟩,by omega,by rw[hb i e hx,hq];rfl⟩
   rw[je hx,Xu,h2]
   simp[hq]
  |false=>
   refine .inr ⟨_,by rw[hb i e hx,hq];rfl, ?_⟩
   have:l.all q=false:=by
    rw[List.all_eq_false]
    exact⟨e,Vq hx,by rw[hq];decide⟩
   rw[this];rfl
 ·have hl:i=l.length:=by omega
  subst hl
  rw[WF] at h2
  refine .inr ⟨_,he, ?_⟩
  rw[h2];rfl
theorem jf (l:List α) (x:α) (h:l.length<9223372036854775807):aV (l++[x]) (IntKind.i64.wrap (((l++[x]).length:Int) - 1))=some x/\(IntKind.i64.wrap (((l++[x]).length:Int) - 1)).toNat=l.length:=by
 have e:IntKind.i64.wrap (((l++[x]).length:Int) - 1)=((l.length:Nat):Int):=by
  rw[Vl,VI,bk _ oM oM];omega
 rw[e,am,VP (Vs _),Wn]
 exact⟨rfl,by omega⟩
variable {a b:UInt8} {i:Nat} {q r:ce}
theorem gp {b:ce} (h:b.drop i=r) (hi:i<=b.length):i+r.length=b.length:=by
 have:=Wf List.length h
 rw[Wd] at this;omega
theorem Ll {b s:ce} (h:b.drop i=s++r):b.drop (i+s.length)=r:=by
 rw[<-Wr,h,Xm]
theorem pD (m:ab) (x:UInt8):lD (!decide ((m.fEscape.toNat:Int)=0)) (some (decide ((x.toNat:Int)=(m.fEscape.toNat:Int))))=some (zY m x):=by rw[aO];rfl
theorem z1 (x:UInt8):IU (decide ((x.toNat:Int)<32)) (some (decide ((126:Int)<(x.toNat:Int))))=some (MM x):=by rw[bx];rfl
def CH (o:ce):ce⊕(ce×ce)->ce⊕(ce×ce)
 | .inl q=> .inl q
 | .inr (t,q)=> .inr (o++t,q)
theorem xg (o:ce) (x:UInt8) (z:ce⊕(ce×ce)):CH (o++[x]) z=CH o (match z with| .inl q=> .inl q| .inr (t,q)=> .inr (x::t,q)):=by
 rcases z with q|⟨t,q⟩
 ·rfl
 ·simp[CH]
def yY (m:ab) (b:ce) (l:List aa) (st:List Int) (ln:Bool):ce⊕(ce×ce)->((ce×Bool)×aN)
 | .inl q=>(([],false),⟨m,b,((b.length - q.length:Nat):Int),l,st,ln⟩)
 | .inr (t,q)=>((t,true),⟨m,b,((b.length - q.length:Nat):Int),l,st,ln⟩)
theorem CI (m:ab) (x:UInt8) (r:ce):dm m (x::r)=if zY m x=true then
   match r with
   |[]=> .inl []
   |y::r=>if Co m y=true then(match dm m r with| .inl q=> .inl q| .inr (o,q)=> .inr (y::o,q)) else .inl (y::r)
  else if Co m x=true then .inr ([],x::r)
  else if MM x=true then .inl (x::r)
  else match dm m r with| .inl q=> .inl q| .inr (o,q)=> .inr (x::o,q):=by
 conv=>lhs;unfold dm
 rfl
theorem tH {m:ab} {t:ce} (h:dm m r= .inr (t,q)):∃ u,r=u++q:=by
 have key:∀ (n:Nat) (r:ce),r.length<=n->∀ t q,dm m r= .inr (t,q)->∃ u,r=u++q:=by
  intro n
  induction n with
  |zero=>
   intro r D t q h
   have:r=[]:=Vx.1 oM
   subst this
   rw[dm] at h;cases h
  |succ n ih=>
   intro r D t q h
   cases r with
   |nil=>rw[dm] at h;cases h
   |cons x r=>
    have D:r.length<=n:=by simpa using D
    unfold dm at h
    split at h
    ·cases r with
     |nil=>cases h
     |cons y r=>
      simp only at h
      split at h
      ·cases Y:dm m r with
       |inl p=>rw[Y] at h;cases h
       |inr a=>
        obtain⟨o,p⟩:=a
        obtain⟨u,hu⟩:=ih r (by simp at D;omega) o p Y
        rw[Y] at h
        cases h
        exact⟨x::y::u,by rw[hu];rfl⟩
      ·cases h
    ·split at h
     ·cases h;exact⟨[],rfl⟩
     ·split at h
      ·cases h
      ·cases Y:dm m r with
       |inl p=>rw[Y] at h;cases h
       |inr a=>
        obtain⟨o,p⟩:=a
        obtain⟨u,hu⟩:=ih r D o p Y
        rw[Y] at h
        cases h
        exact⟨x::u,by rw[hu];rfl⟩
 exact key r.length r (Vs _) t q h
theorem jc {b u:ce} (h:b.drop i=r) (hi:i<=b.length) (D:r=u++q):b.drop (b.length - q.length)=q:=by
 have h1:=gp h hi
 rw[D] at h h1
 rw[Vl] at h1
 have:=Ll h
 rwa[show i+u.length=b.length - q.length by omega] at this
theorem Pk (m:ab) (b r:ce) (i:Nat) (l:List aa) (st:List Int) (ln:Bool) (hd:b.drop i=r) (hi:i<=b.length) (hb:b.length<=1000000):
  gu ⟨m,b,(i:Int),l,st,ln⟩=some (yY m b l st ln (dm m r)):=by
 unfold gu vE;dsimp only
 refine pZ (X:=Nat×ce×ce) (fun x=>(m,b,((x.1:Nat):Int),l,st,ln,x.2.2)) (fun x=>x.2.1.length) (fun x=>b.drop x.1=x.2.1/\x.1<=b.length/\x.2.2.length<=x.1/\dm m r=CH x.2.2 (dm m x.2.1)) ?_ (i,r,[]) ⟨hd,hi,V0 _, ?_⟩
 ·rintro⟨i,J,o⟩ ⟨h1,h2,E,h4⟩
  simp only at h1 h2 E h4⊢
  rw[h4]
  cases J with
  |nil=>
   have hl:=e4 h1 h2
   refine .inr ⟨_,by subst hl;simp only[aB,Vn];rfl, ?_⟩
   rw[dm]
   simp only[CH,yY,bZ,Vp,Nat.sub_zero]
  |cons x J=>
   obtain⟨g1,g2,g3⟩:=eF h1
   have I:=gp h1 h2
   have k:=gp g3 oM
   simp only[Vk] at I
   have e1:((i:Nat):Int)=((b.length - (x::J).length:Nat):Int):=by simp only[Vk];omega
   simp only[aX g2,Vo,am,g1,Vh,pD,aW i oM]
   rw[CI]
   cases he:zY m x with
   |true=>
    simp only[Vo,VW]
    cases J with
    |nil=>
     have hl:=e4 g3 oM
     have d:decide (((i+1:Nat):Int)=(b.length:Int))=true:=VX oM
     refine .inr ⟨_,by simp only[d,IU,Vo,Vh];rfl, ?_⟩
     simp only[CH,yY,bZ,Vp,Nat.sub_zero,hl]
    |cons y J=>
     obtain⟨k1,k2,k3⟩:=eF g3
     have d:decide (((i+1:Nat):Int)=(b.length:Int))=false:=VY oM
     simp only[d,k1,Vh,Q8,bx,Wm]
     have r0:=gp k3 oM
     cases hy:Co m y with
     |false=>
      refine .inr ⟨_,by simp only[VB,Vo];rfl, ?_⟩
      simp only[CH,yY,bZ,Vk,Vw,VQ]
      rw[show b.length - (J.length+1)=i+1 by omega]
     |true=>
      refine .inl ⟨(i+2,J,o++[y]),⟨k3,by omega,by simp;omega, ?_⟩,by simp only[Vk];omega, ?_⟩
      ·simp only[VW]
       rw[xg]
       rcases dm m J with q|⟨t,q⟩<;>rfl
      ·simp only[Vt,Vn]
       rw[bU oT,aW (i+1) oM]
   |false=>
    simp only[Vn,Vw,VQ,Q8,Vh]
    cases Z:Co m x with
    |true=>
     refine .inr ⟨_,by simp only[Vo];rfl, ?_⟩
     simp only[CH,yY,bZ,VW,VL]
     rw[<-e1]
    |false=>
     simp only[Vn,Vw,VQ,z1,Vh]
     cases ho:MM x with
     |true=>
      refine .inr ⟨_,by simp only[Vo];rfl, ?_⟩
      simp only[CH,yY,bZ,VW]
      rw[<-e1]
     |false=>
      refine .inl ⟨(i+1,J,o++[x]),⟨g3,by omega,by simp;omega, ?_⟩,by simp, ?_⟩
      ·simp only[Vw,VQ]
       rw[xg]
       rcases dm m J with q|⟨t,q⟩<;>rfl
      ·simp only[Vn]
       rw[bU oT]
 ·cases dm m r with
  |inl q=>rfl
  |inr a=>obtain⟨t,q⟩:=a;rfl
def QQ (m:ab) (b:ce) (l:List aa) (st:List Int) (ln:Bool) (z:(ak×Bool)×aN):ce⊕(List (List ce)×ce)->Prop
 | .inl q=>z.1.2=false/\z.2=⟨m,b,((b.length - q.length:Nat):Int),l,st,ln⟩
 | .inr (xs,q)=>z=((⟨xs⟩,true),⟨m,b,((b.length - q.length:Nat):Int),l,st,ln⟩)
theorem Lm (h:a=b):decide ((a.toNat:Int)=(b.toNat:Int))=true:=VX (by rw[h])
theorem xz (h:¬ a=b):decide ((a.toNat:Int)=(b.toNat:Int))=false:=VY fun e=>h (W4.1 oM)
theorem CJ (m:ab) (b r:ce) (i:Nat) (l:List aa) (st:List Int) (ln:Bool) (hd:b.drop i=r) (hi:i<=b.length) (hb:b.length<=1000000) {res:ce⊕(List (List ce)×ce)} (F:I7 m m.fRepeat [] r res):
  ∃ z,fB ⟨m,b,(i:Int),l,st,ln⟩=some z/\QQ m b l st ln z res:=by
 unfold fB vF;dsimp only
 refine nn (X:=Nat×ce×List (List ce)×UInt8) (fun x=>(m,b,((x.1:Nat):Int),l,st,ln,x.2.2.1,(⟨[]⟩:ak),x.2.2.2)) (fun x=>x.2.1.length) (fun x=>b.drop x.1=x.2.1/\x.1<=b.length/\x.2.2.1.length+(x.2.2.1.map List.length).sum<=2 * x.1/\(x.2.2.2=m.fRepeat\/x.2.2.1≠[])/\I7 m x.2.2.2 x.2.2.1 x.2.1 res) ?_ (i,r,[],m.fRepeat) ⟨hd,hi,V0 _,.inl rfl,F⟩
 rintro⟨i,J,xs,k⟩ ⟨h1,h2,E,h4,h5⟩
 simp only at h1 h2 E h4 h5⊢
 have G:=Pk m b J i l st ln h1 h2 oM
 have I:=gp h1 h2
 have r2:∀ t,∃ ys p,(if k=m.fRepeat then xs++[[]] else xs)=ys++[p]/\pg m k xs t=ys++[p++[t]]/\ys.length+1+(ys.map List.length).sum+p.length<=2 * i+1:=fun t=>by
  unfold pg
  by_cases hk:k=m.fRepeat
  ·refine⟨xs,[],by rw[Wy hk],by rw[Wy hk,jb],by simp;omega⟩
  ·have U:xs≠[]:=h4.resolve_left hk
   have e:=Xe U
   refine⟨xs.dropLast,xs.getLast U,by rw[WU hk,e],by rw[WU hk,<-jb,e], ?_⟩
   rw[<-e] at E
   simp only[Vl,VI,Wq,VF,WG,List.sum_append,List.sum_cons,List.sum_nil] at E
   omega
 cases h5 with
 | @bad _ _ _ q Y=>
  rw[Y] at G
  unfold yY at G
  exact .inr ⟨_,_,by simp only[G,Vh,VB,Vo];rfl,rfl,rfl,rfl⟩
 | @fin _ _ _ t y q Y hy=>
  obtain⟨ys,p,e1,e2,e3⟩:=r2 t
  obtain⟨u,hu⟩:=tH Y
  have H:=jc h1 h2 hu
  obtain⟨g1,g2,g3⟩:=eF H
  have hv:(decide ((y.toNat:Int)=(m.fElement.toNat:Int))||decide ((y.toNat:Int)=(m.fEnd.toNat:Int)))=true:=by
   rcases hy with h|h
   ·rw[Lm h,Bool.true_or]
   ·rw[Lm h,Bool.or_true]
  refine .inr ⟨.inr ((⟨pg m k xs t⟩,true),⟨m,b,((b.length - (y::q).length:Nat):Int),l,st,ln⟩),((⟨pg m k xs t⟩,true),⟨m,b,((b.length - (y::q).length:Nat):Int),l,st,ln⟩), ?_,rfl,rfl⟩
  rw[Y] at G
  unfold yY at G
  simp only[G,Vh]
  obtain⟨B,C⟩:=jf ys p oM
  by_cases hk:k=m.fRepeat
  ·rw[Wy hk] at e1
   simp only[Vt,Vn,Lm hk,Vo,e1,B,C,Vh,am,g1,bx,hv]
   have hx:xs.length+1=ys.length+1:=by have:=Wf List.length e1;simpa using this
   rw[bU (by simp only[VI];omega),bU (by simp only[VI];omega),e2,We _ _ (Vs _),Wn]
   rfl
  ·rw[WU hk] at e1
   rw[e2]
   simp only[Vt,Vn,xz hk,e1,B,C,Vh,am,g1,bx,hv,Vo]
   rw[bU (by simp only[VI];omega),We _ _ (Vs _),Wn]
   rfl
 | @more _ _ _ t y q _ Y hy D=>
  obtain⟨ys,p,e1,e2,e3⟩:=r2 t
  obtain⟨u,hu⟩:=tH Y
  have H:=jc h1 h2 hu
  obtain⟨g1,g2,g3⟩:=eF H
  have hv:(decide ((y.toNat:Int)=(m.fElement.toNat:Int))||decide ((y.toNat:Int)=(m.fEnd.toNat:Int)))=false:=by
   rw[xz (fun h=>hy (.inl h)),xz (fun h=>hy (.inr h))];rfl
  have w:=(pC Y).1
  have a:=(pC Y).2.1
  simp only[Vk] at w a I
  refine .inl ⟨(b.length - (y::q).length+1,q,pg m k xs t,y),⟨g3,by omega, ?_,.inr (Kh h4),D⟩,by simp only;omega, ?_⟩
  ·simp only[e2,Vl,Wq,VF,WG,List.sum_append,List.sum_cons,List.sum_nil,Vk,Vp]
   omega
  rw[Y] at G
  unfold yY at G
  simp only[G,Vh]
  obtain⟨B,C⟩:=jf ys p oM
  by_cases hk:k=m.fRepeat
  ·rw[Wy hk] at e1
   simp only[Vt,Vn,Lm hk,Vo,e1,B,C,Vh,am,g1,bx,hv]
   have hx:xs.length+1=ys.length+1:=by have:=Wf List.length e1;simpa using this
   rw[bU (by simp only[VI];omega),bU (by simp only[VI];omega),aW _ oM,e2,We _ _ (Vs _),Wn]
   rfl
  ·rw[WU hk] at e1
   rw[e2]
   simp only[Vt,Vn,xz hk,e1,B,C,Vh,am,g1,bx,hv]
   rw[bU (by simp only[VI];omega),aW _ oM,We _ _ (Vs _),Wn]
   rfl
end
section
open Go.RowKit
set_option linter.unusedSimpArgs false
set_option linter.unusedVariables false
variable {i:Nat} {m:ab} {q r:ce} {res:ce⊕(aa×ce)} {α:Type}
theorem HA (l:List α) (h:i<=l.length):b5 l (i:Int) (l.length:Int)=some (l.drop i):=by
 unfold b5
 rw[Wy ⟨by omega,by omega,by omega⟩]
 simp
theorem yf (l:List α) {n:Nat} (h:i+n<=l.length):b5 l (i:Int) (((i+n:Nat)):Int)=some ((l.drop i).take n):=by
 unfold b5
 rw[Wy ⟨by omega,by omega,by omega⟩]
 simp only[Ww]
 rw[List.drop_take,show i+n - i=n by omega]
theorem tf (m:ab) (b:UInt8):([m.fElement,m.fEnd]:ce).contains b=fN m b:=by
 rw[Wa]
 unfold fN
 rw[V8,uo,uo]
 simp
theorem xO {p:UInt8->Bool}:∀ {l:ce} {x:UInt8},x∈l.takeWhile p->p x=true
 |[],_,h=>by cases h
 |a::l,x,h=>by
  rw[List.takeWhile_cons] at h
  split at h
  ·rename_i ha
   rcases VK.1 h with rfl|h
   ·exact ha
   ·exact xO h
  ·cases h
theorem EC (m:ab) (r:ce):Lib.indexAny r [m.fElement,m.fEnd]=match r.dropWhile (fun b=> !fN m b) with
  |[]=> -1
  |_::_=>(((r.takeWhile fun b=> !fN m b).length:Nat):Int):=by
 cases hd:r.dropWhile (fun b=> !fN m b) with
 |nil=>
  have:=np.1 hd
  refine Lib.indexAny_none fun j b hj hb=> ?_
  rw[tf]
  simpa using this b (Vq hb)
 |cons y q=>
  have h1:=W9 (p:=fun b=> !fN m b) (l:=r)
  rw[hd] at h1
  have h2:=o9 hd
  refine Lib.indexAny_hit (x:=y) (fun j b hj hb=> ?_) ?_ ?_
  ·rw[<-h1,V7 hj] at hb
   have:=xO (Vq hb)
   rw[tf]
   simpa using this
  ·have:∀ (a:ce),(a++y::q)[a.length]?=some y:=fun a=>by rw[VP (Vs _),Wn];rfl
   have:=this (r.takeWhile fun b=> !fN m b)
   rwa[h1] at this
  ·rw[tf];simpa using h2
theorem I9 (b:UInt8) (l:ce) (hl:l.length<=1000000):qR (b::l)=some (pX (b::l)):=by
 unfold qR vA;dsimp only
 have hs:b5 (b::l) ((none:Option Int).getD 0) ((some (1:Int)).getD ((b::l).length:Int))=some [b]:=by
  have:=yf (b::l) (i:=0) (n:=1) oS
  simpa using this
 have a:mb [b]=some (!(decide ((b.toNat:Int)<48)||decide ((57:Int)<(b.toNat:Int)))):=by
  unfold mb bj;dsimp only
  rw[yK _ _ _ oS]
  have e1:(((UInt8.ofNat (Int.toNat 48)).toNat:Nat):Int)=48:=rfl
  have e2:(((UInt8.ofNat (Int.toNat 57)).toNat:Nat):Int)=57:=rfl
  have e3:decide (([b]:ce)=[])=false:=VY oS
  simp only[e1,e2,e3,VB,lD,Vo,Vh,XD,List.findSome?_nil]
  cases(decide ((b.toNat:Int)<48)||decide ((57:Int)<(b.toNat:Int)))<;>rfl
 have h1:ls (b::l)=some ((b::l).all uV):=by rw[rp _ oT,Ef]
 have h2:ls [b]=some ([b].all uV):=by rw[rp _ oS,Ef]
 have hd:decide (((b::l).length:Int)<=6)=decide ((b::l).length<=6):=by congr 1;apply propext;omega
 simp only[hs,h1,h2,a,hd,Vh,aO]
 have hb:(uV b&& !!(decide ((b.toNat:Int)<48)||decide ((57:Int)<(b.toNat:Int))))=vq b:=by
  unfold uV vq
  by_cases g1:(b.toNat:Int)<48<;>by_cases g2:(57:Int)<(b.toNat:Int)<;>simp[g1,g2]<;>omega
 have hx:∀ p q t d:Bool,(p&&(t&&q)&&(t&&true)&&d)=(((t&&d)&&q)&&p):=by decide
 unfold pX
 simp only[Wv,List.all_nil,hx,Bool.not_not] at hb⊢
 rw[hb]
theorem HC {b:UInt8} (h:e9 b=true):b.toNat<128:=by
 unfold e9 at h
 simp only[Vj,Wb,W_,VJ] at h
 omega
def I_ (m:ab) (b:ce) (l:List aa) (st:List Int) (ln:Bool):ce⊕(ce×ce)->((ce×Bool)×aN)
 | .inl q=>(([],false),⟨m,b,((b.length - q.length:Nat):Int),l,st,ln⟩)
 | .inr (t,q)=>((t,true),⟨m,b,((b.length - q.length:Nat):Int),l,st,ln⟩)
theorem Ru (m:ab) (hE:e9 m.fElement=true) (hN:e9 m.fEnd=true) (b r:ce) (i:Nat) (l:List aa) (st:List Int) (ln:Bool) (hd:b.drop i=r) (hi:i<=b.length) (D:r≠[]) (hb:b.length<=1000000):
  gI ⟨m,b,(i:Int),l,st,ln⟩=some (I_ m b l st ln (vl m r)):=by
 unfold gI vD;dsimp only
 have I:=gp hd hi
 have hs:b5 b ((some (i:Int)).getD 0) ((none:Option Int).getD (b.length:Int))=some r:=by
  have:=HA b hi
  rw[hd] at this
  exact this
 have hx:mt r [m.fElement,m.fEnd]=some (Lib.indexAny r [m.fElement,m.fEnd]):=by
  unfold mt
  rw[Wy]
  refine⟨by omega,rfl, ?_⟩
  simp[HC hE,HC hN]
 simp only[hs,hx,Vh,EC]
 unfold vl
 cases c:r.dropWhile (fun b=> !fN m b) with
 |nil=>
  cases r with
  |nil=>exact absurd rfl D
  |cons x r=>
   have d:decide ((-1:Int)<0)=true:=by decide
   simp only[d,Vo,I9 x r (by simp at I;omega),Vh]
   cases pX (x::r) with
   |true=>simp only[Vo,VW,I_,Vp,Nat.sub_zero]
   |false=>
    simp only[Vn,Vw,VQ,I_]
    rw[show b.length - (x::r).length=i by omega]
 |cons y q=>
  simp only
  have h1:=W9 (p:=fun b=> !fN m b) (l:=r)
  rw[c] at h1
  have h2:=Wf List.length h1
  rw[Vl] at h2
  have d:decide ((((r.takeWhile fun b=> !fN m b).length:Nat):Int)<0)=false:=VY oM
  have G:IntKind.i64.wrap ((i:Int)+(((r.takeWhile fun b=> !fN m b).length:Nat):Int))=((i+(r.takeWhile fun b=> !fN m b).length:Nat):Int):=by rw[bk _ oM oM];omega
  have s:b5 b ((some (i:Int)).getD 0) ((some ((i+(r.takeWhile fun b=> !fN m b).length:Nat):Int)).getD (b.length:Int))=some (r.takeWhile fun b=> !fN m b):=by
   have:=yf b (i:=i) (n:=(r.takeWhile fun b=> !fN m b).length) oM
   rw[hd] at this
   simp only[Wi]
   rw[this]
   congr 1
   have E:∀ (a:ce),(a++y::q).take a.length=a:=fun a=>List.take_left
   have:=E (r.takeWhile fun b=> !fN m b)
   rwa[h1] at this
  simp only[d,Vn,G,s,Vh]
  rw[Q6 _ oM]
  cases ht:q6 (r.takeWhile fun b=> !fN m b) with
  |true=>
   simp only[Vh,Vt,Vn,VW,I_]
   rw[show b.length - (y::q).length=i+(r.takeWhile fun b=> !fN m b).length by omega]
  |false=>
   simp only[Vh,VB,Vo,Vw,VQ,I_]
   rw[show b.length - r.length=i by omega]
def CK (l:List aa) (ln:Bool) (q:ce):Bool:=if l=[] then ei q else ln
def HD (m:ab) (b:ce) (l:List aa) (ln:Bool) (st:List Int) (i:Nat) (z:Bool×aN):ce⊕(aa×ce)->Prop
 | .inl q=>z.1=false/\z.2.fi=((b.length - q.length:Nat):Int)
 | .inr (s,q)=>if(CK l ln q&& !ei q)=true then z.1=false/\z.2.fi=((b.length - q.length:Nat):Int)
  else∃ j,j=st++[(i:Int)]/\z=(true,⟨m,b,((b.length - (if CK l ln q=true then q.tail else q).length:Nat):Int),l++[s],j,CK l ln q⟩)
theorem Gd {b:ce} (h:b.drop i=q) (hi:i<=b.length):(lD (decide (((i:Nat):Int)<(b.length:Int))) ((aV b ((i:Nat):Int)).bind fun e=>some (decide ((e.toNat:Int)=10))))=some (ei q):=by
 cases q with
 |nil=>
  have:=e4 h hi
  subst this
  rw[aB];rfl
 |cons x q=>
  obtain⟨h1,h2,_⟩:=eF h
  rw[aX h2,am,h1]
  simp only[Vh,aO,V3]
  congr 1
  by_cases hx:x=10
  ·subst hx;rfl
  ·have:ei (x::q)=false:=by
    unfold ei
    split
    ·rename_i h;cases h;exact absurd rfl hx
    ·rfl
   rw[this]
   refine VY fun e=>hx (W4.1 ?_)
   have:(10:UInt8).toNat=10:=rfl
   omega
theorem rJ (h:ei q=true):q=10::q.tail:=by
 unfold ei at h
 split at h
 ·rfl
 ·cases h
theorem E7 (h:xy m r res):(∃ q,vl m r= .inl q/\res= .inl q)\/
  ∃ s q e,vl m r= .inr (s,q)/\zZ m [] q e/\(∀ p,e= .inl p->res= .inl p)/\∀ els y q',e= .inr (els,y::q')->res= .inr (⟨s,els⟩,q'):=by
 cases h with
 |tag ht=>exact .inl ⟨_,ht,rfl⟩
 |bad ht he=>exact .inr ⟨_,_,_,ht,he,(fun p h=>by cases h;rfl),(fun _ _ _ h=>by cases h)⟩
 |ok ht he=>exact .inr ⟨_,_,_,ht,he,(fun p h=>by cases h),(fun _ _ _ h=>by cases h;rfl)⟩
theorem Ki {k:UInt8} {xs:List (List ce)} {res:ce⊕(List (List ce)×ce)} (h:I7 m k xs r res):∀ U q',res= .inr (U,q')->∃ u,r=u++q':=by
 induction h with
 |bad=>intro _ _ h;cases h
 |fin Y hy=>intro _ _ h;cases h;exact tH Y
 | @more k xs r t y q res Y hy _ ih=>
  intro U q' h
  obtain⟨u,hu⟩:=ih U q' h
  obtain⟨v,hv⟩:=tH Y
  exact⟨v++y::u,by rw[hv,hu];simp⟩
theorem yg (m:ab) (hE:e9 m.fElement=true) (hN:e9 m.fEnd=true) (b r:ce) (i:Nat) (l:List aa) (st:List Int) (ln:Bool) (hd:b.drop i=r) (hi:i<=b.length) (D:r≠[]) (hb:b.length<=1000000) (f:st.length<=i) (G:l.length<=i) (F:xy m r res):∃ z,dG ⟨m,b,(i:Int),l,st,ln⟩=some z/\HD m b l ln st i z res:=by
 unfold dG vK;dsimp only
 have ht:=Ru m hE hN b r i l (st++[(i:Int)]) ln hd hi D hb
 have I:=gp hd hi
 rw[bU (by simp only[VI];omega)]
 rcases E7 F with⟨q,d,rfl⟩|⟨s,q,e,d,he,O,P⟩
 ·rw[d] at ht
  unfold I_ at ht
  simp only[ht,Vh,VB,Vo]
  exact⟨_,rfl,rfl,rfl⟩
 ·rw[d] at ht
  unfold I_ at ht
  obtain⟨L,_,_⟩:=p0 d
  have H:=jc hd hi L
  have w:q.length<=r.length:=by have:=Wf List.length L;rw[Vl] at this;omega
  simp only[ht,Vh,Vt,Vn]
  refine nn (X:=Nat×ce×List ak) (fun x=>(m,b,((x.1:Nat):Int),l,st++[(i:Int)],ln,s,x.2.2)) (fun x=>x.2.1.length) (fun x=>b.drop x.1=x.2.1/\x.1<=b.length/\x.2.2.length<=x.1/\zZ m x.2.2 x.2.1 e) ?_ (b.length - q.length,q,[]) ⟨H,by omega,V0 _,he⟩
  rintro⟨j,J,acc⟩ ⟨h1,h2,E,h4⟩
  simp only at h1 h2 E h4⊢
  cases h4 with
  | @bad _ q' p K=>
   obtain⟨g1,g2,g3⟩:=eF h1
   obtain⟨z,hz,o,v⟩:=CJ m b q' (j+1) l (st++[(i:Int)]) ln g3 oM hb K
   obtain⟨⟨N,z2⟩,z3⟩:=z
   simp only at o v
   subst o v
   refine .inr ⟨_,_,by simp only[am,g1,Vh,VS,Vo,aW j oM,hz,VB];rfl,rfl, ?_⟩
   rw[O p rfl]
   exact⟨rfl,rfl⟩
  | @more _ q' xs q2 _ K r9=>
   obtain⟨g1,g2,g3⟩:=eF h1
   obtain⟨z,hz,hc⟩:=CJ m b q' (j+1) l (st++[(i:Int)]) ln g3 oM hb K
   unfold QQ at hc
   subst hc
   obtain⟨k1,k2⟩:=Ki K _ _ rfl
   have n:=jc g3 oM k2
   have k:=gp g3 oM
   refine .inl ⟨(b.length - q2.length,q2,acc++[⟨xs⟩]),⟨n,by omega, ?_,r9⟩, ?_, ?_⟩
   ·simp only[Vl,VI]
    have:=Wf List.length k2
    rw[Vl] at this
    omega
   ·simp only[Vk]
    have:=Wf List.length k2
    rw[Vl] at this
    omega
   ·simp only[am,g1,Vh,VS,Vo,aW j oM,hz,Vt,Vn]
    rw[bU (by simp only[VI];omega)]
  | @fin _ y q' hy=>
   obtain⟨g1,g2,g3⟩:=eF h1
   have k:=gp g3 oM
   refine .inr ⟨.inl (m,b,((j:Nat):Int),l,st++[(i:Int)],ln,s,acc), ?_⟩
   have r7:∀ A:Type,True:=fun _=>trivial
   rw[P acc y q' rfl]
   have a:=Gd g3 oM
   have S:((j+1:Nat):Int)=((b.length - q'.length:Nat):Int):=by omega
   have hk:∀ (c:Bool),decide ((l.length:Int)=0)=c->(decide (l=[])=c):=fun c h=>by
    rw[<-h];congr 1;apply propext;rw[<-Vx];omega
   cases hl:decide ((l.length:Int)=0) with
   |true=>
    have M:l=[]:=by have:=hk _ hl;simpa using this
    have g:CK l ln q'=ei q':=by unfold CK;rw[Wy M]
    cases C:ei q' with
    |false=>
     refine⟨(true,⟨m,b,((j+1:Nat):Int),l++[⟨s,acc⟩],st++[(i:Int)],false⟩), ?_, ?_, ?_⟩
     ·simp only[am,g1,Vh,xz hy,Vn];rfl
     ·simp only[bZ,aW j oM,a,C,Vh,hl,Vo];simp only[lD,Vh,Vo,Vn]
      rw[bU oM]
     ·unfold HD
      simp only[g,C,XM,Vw,VQ]
      exact⟨st++[(i:Int)],rfl,by rw[S]⟩
    |true=>
     have hq:=rJ C
     have t:=Wf List.length hq
     simp only[Vk] at t
     refine⟨(true,⟨m,b,((j+1+1:Nat):Int),l++[⟨s,acc⟩],st++[(i:Int)],true⟩), ?_, ?_, ?_⟩
     ·simp only[am,g1,Vh,xz hy,Vn];rfl
     ·simp only[bZ,aW j oM,aW (j+1) oM,a,C,Vh,hl,Vo];simp only[lD,Vh,Vo,Vt,Vn]
      rw[bU oM]
     ·unfold HD
      simp only[g,C,Vt,XB,Vw,VQ,VW]
      refine⟨st++[(i:Int)],rfl, ?_⟩
      rw[show b.length - q'.tail.length=j+1+1 by omega]
   |false=>
    have M:¬ l=[]:=by have:=hk _ hl;simpa using this
    have g:CK l ln q'=ln:=by unfold CK;rw[WU M]
    cases B:ln with
    |false=>
     subst B
     refine⟨(true,⟨m,b,((j+1:Nat):Int),l++[⟨s,acc⟩],st++[(i:Int)],false⟩), ?_, ?_, ?_⟩
     ·simp only[am,g1,Vh,xz hy,Vn];rfl
     ·simp only[bZ,aW j oM,a,Vh,hl,Vn];simp only[lD,Vh,Vo,Vn]
      rw[bU oM]
     ·unfold HD
      simp only[g,XM,Vw,VQ]
      exact⟨st++[(i:Int)],rfl,by rw[S]⟩
    |true=>
     subst B
     cases C:ei q' with
     |false=>
      refine⟨(false,⟨m,b,((j+1:Nat):Int),l++[⟨s,acc⟩],st++[(i:Int)],true⟩), ?_, ?_, ?_⟩
      ·simp only[am,g1,Vh,xz hy,Vn];rfl
      ·simp only[bZ,aW j oM,a,C,Vh,hl,Vo];simp only[lD,Vh,Vo,VB,Vn]
       rw[bU oM]
      ·unfold HD
       simp only[g,C,VB,Xb,VW]
       exact⟨trivial,S⟩
     |true=>
      have hq:=rJ C
      have t:=Wf List.length hq
      simp only[Vk] at t
      refine⟨(true,⟨m,b,((j+1+1:Nat):Int),l++[⟨s,acc⟩],st++[(i:Int)],true⟩), ?_, ?_, ?_⟩
      ·simp only[am,g1,Vh,xz hy,Vn];rfl
      ·simp only[bZ,aW j oM,aW (j+1) oM,a,C,Vh,hl,Vo];simp only[lD,Vh,Vo,Vt,Vn]
       rw[bU oM]
      ·unfold HD
       simp only[g,C,Vt,XB,Vw,VQ,VW]
       refine⟨st++[(i:Int)],rfl, ?_⟩
       rw[show b.length - q'.tail.length=j+1+1 by omega]
theorem Rv (b:ce) (m:ab) (a z:Int) (ln:Bool) (p:Int):ci ⟨b,m,a,z,ln⟩ p=some ((),⟨b,m,a,if z<0 then p else z,ln⟩):=by
 unfold ci vH;dsimp only
 by_cases h:z<0
 ·simp only[h,VS,Vo,VW]
 ·simp only[h,Xh,Vn,VQ]
theorem sK (b:ce) (m:ab) (a:Int) (ln:Bool) (p:Int):ci ⟨b,m,a, -1,ln⟩ p=some ((),⟨b,m,a,p,ln⟩):=by
 rw[Rv,Wy oD]
def E8 (b:ce) (m:ab) (ln:Bool) (z:ce×ay):ce⊕(ce×ce)->Prop
 | .inl q=>∃ a:Nat,a<=b.length/\z.2=⟨b,m,(a:Int),((b.length - q.length:Nat):Int),ln⟩
 | .inr (s,q)=>z=(s,⟨b,m,((b.length - q.length:Nat):Int), -1,ln⟩)
theorem CL {m:ab} {x:UInt8}:(!decide ((x.toNat:Int)=(m.fElement.toNat:Int))&& !decide ((x.toNat:Int)=(m.fEnd.toNat:Int)))= !fN m x:=by
 unfold fN ud
 cases decide ((x.toNat:Int)=(m.fElement.toNat:Int))<;>rfl
theorem Rw (m:ab) (b r:ce) (i:Nat) (ln:Bool) (hd:b.drop i=r) (hi:i<=b.length) (hb:b.length<=1000000):
  ∃ z,dH ⟨b,m,(i:Int), -1,ln⟩=some z/\E8 b m ln z (vl m r):=by
 unfold dH vI;dsimp only
 have I:=gp hd hi
 refine nn (X:=Nat×ce×ce) (fun x=>(b,m,((x.1:Nat):Int),(-1:Int),ln)) (fun x=>x.2.1.length) (fun x=>b.drop x.1=x.2.1/\x.1<=b.length/\x.1=i+x.2.2.length/\r.takeWhile (fun b=> !fN m b)=x.2.2++x.2.1.takeWhile (fun b=> !fN m b)/\r.dropWhile (fun b=> !fN m b)=x.2.1.dropWhile (fun b=> !fN m b)) ?_ (i,r,[]) ⟨hd,hi,rfl,rfl,rfl⟩
 rintro⟨j,J,o⟩ ⟨h1,h2,E,h4,h5⟩
 simp only at h1 h2 E h4 h5⊢
 have u6:b5 b ((some (i:Int)).getD 0) ((some (j:Int)).getD (b.length:Int))=some (r.take (j - i)):=by
  have:=yf b (i:=i) (n:=j - i) oM
  rw[show i+(j - i)=j by omega,hd] at this
  exact this
 cases J with
 |nil=>
  have hj:=e4 h1 h2
  have e1:r.take (j - i)=r:=VO oM
  rw[e1] at u6
  have q:fz r=some (pX r):=by
   rw[IC r oM]
   unfold pX
   cases r<;>rfl
  have ht:vl m r= .inl (if pX r=true then[] else r):=by unfold vl;rw[h5];rfl
  have d:decide (((j:Nat):Int)=(b.length:Int))=true:=VX oM
  have d2:decide (((j:Nat):Int)<(b.length:Int))=false:=VY oM
  rw[ht]
  cases a:pX r with
  |true=>
   refine .inr ⟨.inl (b,m,((j:Nat):Int), -1,ln),(r,⟨b,m,((j:Nat):Int),(b.length:Int),ln⟩), ?_, ?_,j,h2, ?_⟩
   ·simp only[d2,lD,Vn,Vh];rfl
   ·simp only[bZ,u6,Vh,d,Vo,q,a,sK]
   ·simp
  |false=>
   refine .inr ⟨.inl (b,m,((j:Nat):Int), -1,ln),(r,⟨b,m,((j:Nat):Int),(i:Int),ln⟩), ?_, ?_,j,h2, ?_⟩
   ·simp only[d2,lD,Vn,Vh];rfl
   ·simp only[bZ,u6,Vh,d,Vo,q,a,Vn,sK]
   ·simp only[Vw,VQ]
    rw[show b.length - r.length=i by omega]
 |cons x J=>
  obtain⟨g1,g2,g3⟩:=eF h1
  cases f:fN m x with
  |false=>
   refine .inl ⟨(j+1,J,o++[x]),⟨g3,by omega,by simp;omega, ?_, ?_⟩,by simp, ?_⟩
   ·rw[h4];simp[f]
   ·rw[h5];simp[f]
   ·simp only[aX g2,am,g1,Vh,aO,V3,CL,f,VB,Vo,aW j oM]
  |true=>
   have e0:r.takeWhile (fun b=> !fN m b)=o:=by rw[h4];simp[f]
   have w:r.dropWhile (fun b=> !fN m b)=x::J:=by rw[h5];simp[f]
   have er:r=o++x::J:=by
    have:=W9 (p:=fun b=> !fN m b) (l:=r)
    rw[e0,w] at this
    exact this.symm
   have e1:r.take (j - i)=o:=by
    rw[show j - i=o.length by omega,er,List.take_left]
   rw[e1] at u6
   have ht:vl m r=if q6 o=true then .inr (o,x::J) else .inl r:=by unfold vl;rw[w,e0]
   have e:=Wf List.length er
   rw[Vl] at e
   have d:decide (((j:Nat):Int)=(b.length:Int))=false:=VY oM
   have c:=Q7 o oM
   rw[ht]
   cases a:q6 o with
   |true=>
    refine .inr ⟨.inl (b,m,((j:Nat):Int), -1,ln),(o,⟨b,m,((j:Nat):Int), -1,ln⟩), ?_, ?_, ?_⟩
    ·simp only[aX g2,am,g1,Vh,aO,V3,CL,f,Vt,Vn];rfl
    ·simp only[bZ,u6,Vh,d,Vn,c,a,Vt]
    ·simp only[VW,E8]
     rw[show b.length - (x::J).length=j by omega]
   |false=>
    refine .inr ⟨.inl (b,m,((j:Nat):Int), -1,ln),(o,⟨b,m,((j:Nat):Int),(i:Int),ln⟩), ?_, ?_,j,h2, ?_⟩
    ·simp only[aX g2,am,g1,Vh,aO,V3,CL,f,Vt,Vn];rfl
    ·simp only[bZ,u6,Vh,d,Vn,c,a,VB,Vo,sK]
    ·rw[show b.length - r.length=i by omega]
theorem Kj (m:ab) (b r:ce) (i:Nat) (ln:Bool) (hd:b.drop i=r) (hi:i<=b.length) (hb:b.length<=1000000):
  ∃ z,dA ⟨b,m,(i:Int), -1,ln⟩=some z/\E8 b m ln z (dm m r):=by
 unfold dA vJ;dsimp only
 refine nn (X:=(Nat×ce×ce)⊕(Nat×Nat×ce)) (fun x=>match x with| .inl (i,_,o)=>(b,m,((i:Nat):Int),(-1:Int),ln,o)| .inr (a,z,o)=>(b,m,(a:Int),((z:Nat):Int),ln,o)) (fun x=>match x with| .inl (_,r,_)=>r.length+1| .inr _=>0)
  (fun x=>match x with| .inl (i,J,o)=>b.drop i=J/\i<=b.length/\o.length<=i/\dm m r=CH o (dm m J)| .inr (a,z,_)=>a<=b.length/\∃ q,dm m r= .inl q/\z=b.length - q.length) ?_ (.inl (i,r,[])) ⟨hd,hi,V0 _, ?_⟩
 ·rintro(⟨j,J,o⟩|⟨a,z,o⟩) hP
  ·obtain⟨h1,h2,E,h4⟩:=hP
   have I:=gp h1 h2
   have dn:decide ((-1:Int)<0)=true:=by decide
   cases J with
   |nil=>
    have hj:=e4 h1 h2
    have d:decide (((j:Nat):Int)=(b.length:Int))=true:=VX oM
    rw[dm] at h4
    refine .inr ⟨.inl (b,m,((j:Nat):Int),(b.length:Int),ln,o),(o,⟨b,m,((j:Nat):Int),(b.length:Int),ln⟩), ?_,rfl, ?_⟩
    ·simp only[dn,d,Vo,sK,Vh];rfl
    ·rw[h4]
     exact⟨j,h2,by simp⟩
   |cons x J=>
    obtain⟨g1,g2,g3⟩:=eF h1
    have k:=gp g3 oM
    have d:decide (((j:Nat):Int)=(b.length:Int))=false:=VY oM
    rw[CI] at h4
    cases he:zY m x with
    |true=>
     rw[Wy he] at h4
     cases J with
     |nil=>
      have hl:=e4 g3 oM
      have d2:decide (((j+1:Nat):Int)=(b.length:Int))=true:=VX oM
      refine .inl ⟨.inr (j,b.length,o),⟨h2,[],h4,by simp⟩,by simp, ?_⟩
      simp only[dn,d,Vo,Vn,am,g1,Vh,pD,he,aW j oM,d2,sK]
     |cons y J=>
      obtain⟨k1,k2,k3⟩:=eF g3
      have r0:=gp k3 oM
      have d2:decide (((j+1:Nat):Int)=(b.length:Int))=false:=VY oM
      simp only at h4
      cases hy:Co m y with
      |false=>
       rw[WU (by rw[hy];decide)] at h4
       refine .inl ⟨.inr (j,j+1,o),⟨h2,y::J,h4,by omega⟩,by simp, ?_⟩
       simp only[dn,d,Vo,Vn,am,g1,k1,Vh,pD,he,aW j oM,d2,FX,hy,VB,sK]
      |true=>
       rw[Wy hy] at h4
       have n:IntKind.i64.wrap ((j:Int)+2)=((j+2:Nat):Int):=by rw[bk _ oM oM];omega
       refine .inl ⟨.inl (j+2,J,o++[y]),⟨k3,by omega,by simp;omega, ?_⟩,by simp only[Vk];omega, ?_⟩
       ·rw[h4,xg]
        rcases dm m J with q|⟨t,q⟩<;>rfl
       ·simp only[dn,d,Vo,Vn,am,g1,k1,Vh,pD,he,aW j oM,d2,FX,hy,Vt,n]
        rw[bU oT]
    |false=>
     rw[WU (by rw[he];decide)] at h4
     cases Z:Co m x with
     |true=>
      rw[Wy Z] at h4
      refine .inr ⟨.inl (b,m,((j:Nat):Int), -1,ln,o),(o,⟨b,m,((j:Nat):Int), -1,ln⟩), ?_,rfl, ?_⟩
      ·simp only[dn,d,Vo,Vn,am,g1,Vh,pD,he,FX,Z];rfl
      ·rw[h4]
       simp only[CH,E8,VL]
       rw[show b.length - (x::J).length=j by omega]
     |false=>
      rw[WU (by rw[Z];decide)] at h4
      cases ho:MM x with
      |true=>
       rw[Wy ho] at h4
       refine .inl ⟨.inr (j+1,j,o++[x]),⟨by omega,x::J,h4,by omega⟩,by simp, ?_⟩
       simp only[dn,d,Vo,Vn,am,g1,Vh,pD,he,FX,Z,z1,ho,sK,aW j oM]
       rw[bU oT]
      |false=>
       rw[WU (by rw[ho];decide)] at h4
       refine .inl ⟨.inl (j+1,J,o++[x]),⟨g3,by omega,by simp;omega, ?_⟩,by simp, ?_⟩
       ·rw[h4,xg]
        rcases dm m J with q|⟨t,q⟩<;>rfl
       ·simp only[dn,d,Vo,Vn,am,g1,Vh,pD,he,FX,Z,z1,ho,aW j oM]
        rw[bU oT]
  ·obtain⟨h1,q,h2,E⟩:=hP
   have dn:decide (((z:Nat):Int)<0)=false:=VY oM
   refine .inr ⟨.inl (b,m,(a:Int),((z:Nat):Int),ln,o),(o,⟨b,m,(a:Int),((z:Nat):Int),ln⟩), ?_,rfl, ?_⟩
   ·simp only[dn,Vn];rfl
   ·rw[h2]
    exact⟨a,h1,by rw[E]⟩
 ·rcases dm m r with q|⟨t,q⟩<;>rfl
def Rx (acc:List ak) (n:Nat):Prop:=acc=[]\/∃ ys zs p,acc=ys++[⟨zs++[p]⟩]/\ys.length+1+(zs.length+1)+p.length<=n
def Kk (b:ce) (m:ab) (ln:Bool) (z:aa×ay):ce⊕(aa×ce)->Prop
 | .inl q=>∃ a:Int,z.2=⟨b,m,a,((b.length - q.length:Nat):Int),ln⟩
 | .inr (s,q)=>z=(s,⟨b,m,((b.length - q.length:Nat):Int), -1,ln⟩)
theorem yh (m:ab) (Z:m.fElement≠m.fEnd) (b r:ce) (i:Nat) (ln:Bool) (hd:b.drop i=r) (hi:i<=b.length) (hb:b.length<=1000000) {res:ce⊕(aa×ce)} (F:xy m r res):
  ∃ z,db ⟨b,m,(i:Int), -1,ln⟩=some z/\Kk b m ln z res:=by
 unfold db vL;dsimp only
 have I:=gp hd hi
 obtain⟨⟨s0,g⟩,ht,v⟩:=Rw m b r i ln hd hi hb
 rcases E7 F with⟨q,d,rfl⟩|⟨s,q,e,d,he,O,P⟩
 ·rw[d] at v
  obtain⟨a,ha,hc⟩:=v
  simp only at hc
  subst hc
  simp only[ht,Vh]
  have dn:decide (((b.length - q.length:Nat):Int)<0)=false:=VY oM
  refine⟨(⟨s0,[]⟩,⟨b,m,IntKind.i64.wrap ((a:Int)+1),((b.length - q.length:Nat):Int),ln⟩), ?_,_,rfl⟩
  rw[bS]
  simp only[dn,lD,Vn,Vh]
  rfl
 ·rw[d] at v
  unfold E8 at v
  simp only[Vm] at v
  rw[v.1,v.2] at ht
  obtain⟨L,⟨f,D,G,K⟩,_⟩:=p0 d
  have H:=jc hd hi L
  have w:q.length<=r.length:=by have:=Wf List.length L;rw[Vl] at this;omega
  have R:=MO Z he (fun y q h=>by rw[G] at h;cases h;exact K)
  simp only[ht,Vh]
  refine nn (X:=(Nat×ce×List ak)⊕(Nat×Nat×List ak)) (fun x=>match x with| .inl (i,_,o)=>(b,m,((i:Nat):Int),(-1:Int),ln,s,o)| .inr (a,z,o)=>(b,m,(a:Int),((z:Nat):Int),ln,s,o)) (fun x=>match x with| .inl (_,r,_)=>r.length+1| .inr _=>0)
   (fun x=>match x with| .inl (i,J,o)=>b.drop i=J/\i<=b.length/\Rx o (3 * i)/\(o=[]->∃ y q,J=y::q/\(y=m.fElement\/y=m.fEnd))/\OV m o J e| .inr (a,z,_)=>a<=b.length/\∃ q,e= .inl q/\z=b.length - q.length) ?_ (.inl (b.length - q.length,q,[])) ⟨H,by omega,.inl rfl,fun _=>⟨f,D,G,K⟩,R⟩
  rintro(⟨j,J,acc⟩|⟨a,z,o⟩) hP
  ·obtain⟨h1,h2,E,h4,h5⟩:=hP
   have dn:decide ((-1:Int)<0)=true:=by decide
   cases h5 with
   | @fin _ q'=>
    obtain⟨g1,g2,g3⟩:=eF h1
    have k:=gp g3 oM
    refine .inr ⟨.inl (b,m,((j:Nat):Int), -1,ln,s,acc),(⟨s,acc⟩,⟨b,m,((j+1:Nat):Int), -1,ln⟩), ?_, ?_, ?_⟩
    ·simp only[dn,am,g1,Vh,aO,VS,Vt,XB,Vn];rfl
    ·simp only[bZ,aW j oM]
    ·rw[P _ _ _ rfl]
     simp only[Kk]
     rw[show b.length - q'.length=j+1 by omega]
   | @bad _ y q' p hy Y=>
    obtain⟨g1,g2,g3⟩:=eF h1
    obtain⟨⟨t,c⟩,hz,hc⟩:=Kj m b q' (j+1) ln g3 oM hb
    rw[Y] at hc
    obtain⟨a,ha,hc⟩:=hc
    simp only at hc
    subst hc
    have d0:decide ((0:Int)<=((b.length - p.length:Nat):Int))=true:=VX oM
    refine .inr ⟨.inl (b,m,(a:Int),((b.length - p.length:Nat):Int),ln,s,acc),(⟨s,acc⟩,⟨b,m,IntKind.i64.wrap ((a:Int)+1),((b.length - p.length:Nat):Int),ln⟩), ?_, ?_, ?_⟩
    ·simp only[dn,am,g1,Vh,aO,xz hy,VB,Xb,Vo,aW j oM,hz,d0];rfl
    ·simp only[bZ]
    ·rw[O p rfl]
     exact⟨_,rfl⟩
   | @more _ y q' t q2 _ hy Y r9=>
    obtain⟨g1,g2,g3⟩:=eF h1
    obtain⟨⟨t',c⟩,hz,hc⟩:=Kj m b q' (j+1) ln g3 oM hb
    rw[Y] at hc
    unfold E8 at hc
    simp only[Vm] at hc
    rw[hc.1,hc.2] at hz
    obtain⟨u,hu⟩:=tH Y
    have n:=jc g3 oM hu
    have k:=gp g3 oM
    have M:=Wf List.length hu
    rw[Vl] at M
    have d0:decide ((0:Int)<= -1)=false:=by decide
    by_cases l:y=m.fElement
    ·have e1:Hz m acc y t=acc++[⟨[[t]]⟩]:=by unfold Hz;rw[Wy l]
     rw[e1] at r9
     have N:acc.length<=3 * j:=by
      rcases E with h|⟨ys,zs,p,h,h6⟩
      ·rw[h];simp
      ·rw[h];simp only[Vl,VI];omega
     refine .inl ⟨.inl (b.length - q2.length,q2,acc++[⟨[[t]]⟩]),⟨n,by omega,.inr ⟨acc,[],[t],rfl, ?_⟩,fun h=>by simp at h,r9⟩,by simp only[Vk];omega, ?_⟩
     ·rcases E with h|⟨ys,zs,p,h,h6⟩
      ·rw[h];simp only[Vp,VI];omega
      ·rw[h];simp only[Vl,VI,Vp];omega
     ·simp only[dn,am,g1,Vh,aO,xz hy,VB,Xb,Vo,aW j oM,hz,d0,Vn,Lm l]
      rw[bU (by simp only[VI];omega)]
    ·have U:acc≠[]:=fun h=>by
      obtain⟨y',q3,h6,h7⟩:=h4 h
      cases h6
      rcases h7 with h7|h7
      ·exact l h7
      ·exact hy h7
     obtain⟨ys,zs,p,rfl,h6⟩:=E.resolve_left U
     rw[E6 l] at r9
     obtain⟨B,C⟩:=jf ys (⟨zs++[p]⟩:ak) oM
     obtain⟨k1,k2⟩:=jf zs p oM
     by_cases A:y=m.fRepeat
     ·have e1:pg m y (zs++[p]) t=zs++[p]++[[t]]:=by unfold pg;rw[Wy A,jb];rfl
      rw[e1] at r9
      refine .inl ⟨.inl (b.length - q2.length,q2,ys++[⟨zs++[p]++[[t]]⟩]),⟨n,by omega,.inr ⟨ys,zs++[p],[t],rfl, ?_⟩,fun h=>by simp at h,r9⟩,by simp only[Vk];omega, ?_⟩
      ·simp only[Vl,VI];omega
      ·simp only[dn,am,g1,Vh,aO,xz hy,VB,Xb,Vo,aW j oM,hz,d0,Vn,xz l,B,C,Lm A]
       rw[bU (by simp only[VI,Vl];omega),We _ _ (Vs _),Wn]
       rfl
     ·have e1:pg m y (zs++[p]) t=zs++[p++[t]]:=by unfold pg;rw[WU A,jb]
      rw[e1] at r9
      refine .inl ⟨.inl (b.length - q2.length,q2,ys++[⟨zs++[p++[t]]⟩]),⟨n,by omega,.inr ⟨ys,zs,p++[t],rfl, ?_⟩,fun h=>by simp at h,r9⟩,by simp only[Vk];omega, ?_⟩
      ·simp only[Vl,VI];omega
      ·simp only[dn,am,g1,Vh,aO,xz hy,VB,Xb,Vo,aW j oM,hz,d0,Vn,xz l,B,C,xz A,k1,k2]
       rw[bU (by simp only[VI];omega),We _ _ (Vs _),Wn,We _ _ (Vs _),Wn]
       rfl
  ·obtain⟨h1,q,h2,E⟩:=hP
   have dn:decide (((z:Nat):Int)<0)=false:=VY oM
   refine .inr ⟨.inl (b,m,(a:Int),((z:Nat):Int),ln,s,o),(⟨s,o⟩,⟨b,m,IntKind.i64.wrap ((a:Int)+1),((z:Nat):Int),ln⟩), ?_, ?_, ?_⟩
   ·simp only[dn,lD,Vn,Vh];rfl
   ·simp only[bZ]
   ·rw[O q h2]
    exact⟨_,by rw[E]⟩
variable {l:List aa} {m:ab} {q r:ce} {res:ce⊕(List aa×Bool)} {s:aa}
def CM (b:ce):ce⊕(List aa×Bool)->List aa×Bool×Int×Int
 | .inl q=>([],false,((b.length - q.length:Nat):Int),10)
 | .inr (x,p)=>if fJ x=0 then(x,p,0,0) else([],false,0,fJ x)
def Ry (m:ab) (b:ce) (res:ce⊕(List aa×Bool)) (st:List Int):Prop:=∀ (k:Nat) (n:Int),st[k]?=some n->∃ (j:Nat) (out:List aa) (ln:Bool),n=(j:Int)/\j<=b.length/\out.length=k/\sy m out ln (b.drop j) res
theorem Ry.snoc {b:ce} {st:List Int} (h:Ry m b res st) {i:Nat} {ln:Bool} (hl:st.length=l.length) (h1:b.drop i=r) (h2:i<=b.length) (hc:sy m l ln r res):Ry m b res (st++[(i:Int)]):=by
 intro k n hk
 rcases Nat.lt_trichotomy k st.length with h9|B|c
 ·rw[V7 h9] at hk
  exact h k n hk
 ·subst B
  rw[VP (Vs _),Wn] at hk
  have hk:((i:Nat):Int)=n:=by simpa using hk
  exact⟨i,l,ln,hk.symm,h2,hl.symm,by rw[h1];exact hc⟩
 ·rw[List.getElem?_eq_none oT] at hk
  cases hk
def xP (m:ab) (b:ce) (z:Option aN×Int×Int):ce⊕(List aa×Bool)->Prop
 | .inl q=>z=(none,((b.length - q.length:Nat):Int),10)
 | .inr (x,p)=>if fJ x=0 then∃ c,z=(some c,0,0)/\c.flist=x/\c.flines=p/\c.fstarts.length=x.length/\Ry m b (.inr (x,p)) c.fstarts else z=(none,0,fJ x)
def yi (l:List aa):Prop:=∀ s∈l,q6 s.fTag=true
theorem yi.short (h:yi l):xv l:=fun s hs=>by have:=(Ha (h s hs)).1;omega
theorem yi.snoc (h:yi l) (hs:q6 s.fTag=true):yi (l++[s]):=fun x hx=>by
 rcases VM.1 hx with hx|hx
 ·exact h x hx
 ·rw[V1.1 hx];exact hs
theorem Ge (h:xy m r (.inr (s,q))):q6 s.fTag=true:=by
 cases h with
 |ok ht _=>exact(p0 ht).2.2
theorem MQ {acc:List ak} {res:ce⊕(List ak×ce)} (h:zZ m acc r res):∀ a q',res= .inr (a,q')->∃ u,r=u++q':=by
 induction h with
 |fin=>intro _ _ h;cases h;exact⟨[],rfl⟩
 |bad=>intro _ _ h;cases h
 | @more acc q xs q' res he _ ih=>
  intro a q2 h
  obtain⟨u,hu⟩:=ih a q2 h
  obtain⟨v,hv⟩:=Ki he _ _ rfl
  exact⟨m.fElement::(v++u),by rw[hv,hu];simp⟩
theorem Pl (a b:ce) (y:UInt8) (c:ce):a++(b++y::c)=(a++(b++[y]))++c:=by simp
theorem yZ (h:xy m r (.inr (s,q))):∃ u,r=u++q:=by
 cases h with
 |ok ht he=>
  obtain⟨u,hu⟩:=MQ he _ _ rfl
  have h1:=(p0 ht).1
  rw[hu] at h1
  exact⟨_,h1.trans (Pl _ _ _ _)⟩
theorem MR (hE:e9 m.fElement=true) (hN:e9 m.fEnd=true) (h:ei r=true):xy m r (.inl r):=by
 refine .tag ?_
 have D:=rJ h
 have t:e9 10=false:=by decide
 have f:fN m 10=false:=by
  cases hs:fN m 10 with
  |false=>rfl
  |true=>
   unfold fN at hs
   rw[V8,uo,uo] at hs
   rcases hs with hs|hs
   ·rw[<-hs,t] at hE;cases hE
   ·rw[<-hs,t] at hN;cases hN
 rw[D]
 unfold vl
 have e1:((10:UInt8)::r.tail).takeWhile (fun b=> !fN m b)=10::r.tail.takeWhile (fun b=> !fN m b):=by simp[f]
 rw[e1]
 have e2:q6 (10::r.tail.takeWhile (fun b=> !fN m b))=false:=by
  have:vq 10=false:=by decide
  simp[q6,this]
 have e3:pX ((10:UInt8)::r.tail)=false:=by
  have:vq 10=false:=by decide
  simp[pX,this]
 rw[e2,e3]
 split<;>simp
theorem E9 (m:ab) (hE:e9 m.fElement=true) (hN:e9 m.fEnd=true) (b:ce) (hb:b.length<=1000000) (F:sy m [] false b res):∃ z,yc b m=some z/\xP m b z res:=by
 unfold yc vO;dsimp only
 refine nn (X:=Nat×ce×List aa×List Int×Bool) (fun x=>(m,b,((x.1:Nat):Int),x.2.2.1,x.2.2.2.1,x.2.2.2.2)) (fun x=>x.2.1.length)
  (fun x=>b.drop x.1=x.2.1/\x.1<=b.length/\x.2.2.2.1.length=x.2.2.1.length/\x.2.2.1.length<=x.1/\(yi x.2.2.1/\Ry m b res x.2.2.2.1)/\(sy m x.2.2.1 x.2.2.2.2 x.2.1 res\/(ei x.2.1=true/\res= .inl x.2.1))) ?_ (0,b,[],[],false) ⟨rfl,V0 _,rfl,Vs _,⟨fun _ h=>(by cases h),fun k n hk=>(by simp at hk)⟩,.inl F⟩
 rintro⟨i,r,l,st,ln⟩ ⟨h1,h2,t,h4,⟨h5,f⟩,h6⟩
 simp only at h1 h2 t h4 h5 f h6⊢
 have E:st.length<=i:=by omega
 have I:=gp h1 h2
 have A:∀ q,r≠[]->xy m r (.inl q)->res= .inl q->∃ a c,(bif decide (((i:Nat):Int)<(b.length:Int)) then
   (dG ⟨⟨m.fElement,m.fPart,m.fRepeat,m.fEscape,m.fEnd⟩,b,((i:Nat):Int),l,st,ln⟩).bind fun y=>
    bif !y.1 then(gr (gr (some ((none:Option aN),y.2.fi,(10:Int)))):Option ((ab×ce×Int×List aa×List Int×Bool)⊕((ab×ce×Int×List aa×List Int×Bool)⊕(Option aN×Int×Int)))) else some (Sum.inl (y.2.fm,y.2.fb,y.2.fi,y.2.flist,y.2.fstarts,y.2.flines))
   else gr (some (Sum.inl (m,b,((i:Nat):Int),l,st,ln))))=some (.inr (.inr a))/\a=c/\xP m b c res:=fun q D hs hq=>by
  obtain⟨⟨N,z2⟩,hz,o,v⟩:=yg m hE hN b r i l st ln h1 h2 D hb E h4 hs
  simp only at o v
  subst o
  have hi:i<b.length:=by
   have:0<r.length:=WI.2 D
   omega
  refine⟨(none,z2.fi,10),_, ?_,rfl, ?_⟩
  ·simp only[aX hi,Vo,hz,Vh,VB];rfl
  ·rw[hq,v];rfl
 rcases h6 with h6|⟨h6,h7⟩
 ·cases h6 with
  |nil=>
   have hi:=e4 h1 h2
   have d:decide (((i:Nat):Int)<(b.length:Int))=false:=VY oM
   cases p:decide (fJ l=0) with
   |true=>
    have H:fJ l=0:=by simpa using p
    refine .inr ⟨.inl (m,b,((i:Nat):Int),l,st,ln),(some ⟨m,b,((i:Nat):Int),l,st,ln⟩,0,0), ?_, ?_, ?_⟩
    ·simp only[d,Vn];rfl
    ·simp only[bZ,JT l h5.short,Vh,p,Vt,Vn]
    ·simp only[xP,H,VW]
     exact⟨_,rfl,rfl,rfl,t,f⟩
   |false=>
    have H:¬ fJ l=0:=by simpa using p
    refine .inr ⟨.inl (m,b,((i:Nat):Int),l,st,ln),(none,0,fJ l), ?_, ?_, ?_⟩
    ·simp only[d,Vn];rfl
    ·simp only[bZ,JT l h5.short,Vh,p,VB,Vo]
    ·simp only[xP,H,VQ]
  |bad D hs=>
   obtain⟨a,c,e1,e2,e3⟩:=A _ D hs rfl
   exact .inr ⟨.inr a,c,e1,by rw[<-e2];rfl,e3⟩
  | @stop _ _ _ s q D hs ho B=>
   obtain⟨⟨N,z2⟩,hz,hc⟩:=yg m hE hN b r i l st ln h1 h2 D hb E h4 hs
   obtain⟨u,hu⟩:=yZ hs
   have hq:=jc h1 h2 hu
   have w:=(CG hs).2 _ _ rfl
   have hi:i<b.length:=by omega
   have g:CK l ln q=ln:=by unfold CK;rw[WU ho]
   simp only[HD,g] at hc
   cases hl:ln with
   |true=>
    subst hl
    have C:ei q=false:=by
     cases C:ei q with
     |false=>rfl
     |true=>rw[C] at B;exact absurd rfl B
    simp only[C,VB,W7,VW] at hc
    obtain⟨o,v⟩:=hc
    subst o
    refine .inr ⟨.inr (none,z2.fi,10),(none,z2.fi,10), ?_,rfl, ?_⟩
    ·simp only[aX hi,Vo,hz,Vh,VB];rfl
    ·rw[v];rfl
   |false=>
    subst hl
    have C:ei q=true:=by
     cases C:ei q with
     |true=>rfl
     |false=>rw[C] at B;exact absurd rfl B
    simp only[XM,Vw,VQ] at hc
    obtain⟨j,e,hc⟩:=hc
    rw[Vm] at hc
    rw[hc.1,hc.2] at hz
    refine .inl ⟨(b.length - q.length,q,l++[s],j,false),⟨hq,by omega,by simp only[e,Vl,Vk,Vp];omega,by simp;omega,⟨h5.snoc (Ge hs),by rw[e];exact f.snoc t h1 h2 (.stop D hs ho B)⟩,.inr ⟨C,rfl⟩⟩,w, ?_⟩
    simp only[aX hi,Vo,hz,Vh,Vt,Vn]
  | @more _ _ _ s q _ D hs ho r9=>
   obtain⟨⟨N,z2⟩,hz,hc⟩:=yg m hE hN b r i l st ln h1 h2 D hb E h4 hs
   obtain⟨u,hu⟩:=yZ hs
   have hq:=jc h1 h2 hu
   have w:=(CG hs).2 _ _ rfl
   have hi:i<b.length:=by omega
   have g:CK l ln q=ei q:=by
    unfold CK
    by_cases h0:l=[]
    ·rw[Wy h0]
    ·rw[WU h0];exact ho.resolve_left h0
   have G:(ei q&& !ei q)=false:=by cases ei q<;>rfl
   simp only[HD,g,G,Vw,VQ] at hc
   obtain⟨j,e,hc⟩:=hc
   rw[Vm] at hc
   rw[hc.1,hc.2] at hz
   have r0:(if ei q=true then q.tail else q).length<=q.length:=by split<;>simp
   refine .inl ⟨(b.length - (if ei q=true then q.tail else q).length,(if ei q=true then q.tail else q),l++[s],j,ei q),⟨?_,by omega,by simp only[e,Vl,Vk,Vp];omega,by simp;omega,⟨h5.snoc (Ge hs),by rw[e];exact f.snoc t h1 h2 (.more D hs ho r9)⟩,.inl r9⟩,by simp only;omega, ?_⟩
   ·cases C:ei q with
    |false=>simpa using hq
    |true=>
     simp only[VW]
     have h9:=rJ C
     refine jc (u:=u++[10]) h1 h2 ?_
     rw[hu]
     conv=>lhs;rw[h9]
     simp
   ·simp only[aX hi,Vo,hz,Vh,Vt,Vn]
 ·have D:r≠[]:=fun h=>by rw[h] at h6;cases h6
  obtain⟨a,c,e1,e2,e3⟩:=A r D (MR hE hN h6) h7
  exact .inr ⟨.inr a,c,e1,by rw[<-e2];rfl,e3⟩
theorem E_ (m:ab) (Z:m.fElement≠m.fEnd) (b:ce) (hb:b.length<=1000000) (F:sy m [] false b res):lC b m=some (CM b res):=by
 unfold lC vP;dsimp only
 refine pZ (X:=(Nat×ce×List aa×Bool)⊕(Int×Nat×List aa×Bool)) (fun x=>match x with| .inl (i,_,o,ln)=>(b,m,((i:Nat):Int),(-1:Int),ln,o)| .inr (a,z,o,ln)=>(b,m,a,((z:Nat):Int),ln,o)) (fun x=>match x with| .inl (_,r,_)=>r.length+1| .inr _=>0)
  (fun x=>match x with| .inl (i,J,o,ln)=>b.drop i=J/\i<=b.length/\o.length<=i/\yi o/\sy m o ln J res| .inr (a,z,_,_)=>∃ q,res= .inl q/\z=b.length - q.length) ?_ (.inl (0,b,[],false)) ⟨rfl,V0 _,Vs _,fun _ h=>(by cases h),F⟩
 rintro(⟨i,r,l,ln⟩|⟨a,z,l,ln⟩) hP
 ·obtain⟨h1,h2,E,h4,h5⟩:=hP
  have I:=gp h1 h2
  have dn:decide ((-1:Int)<0)=true:=by decide
  have d0:decide ((0:Int)<= -1)=false:=by decide
  cases h5 with
  |nil=>
   have hi:=e4 h1 h2
   have d:decide (((i:Nat):Int)<(b.length:Int))=false:=VY oM
   refine .inr ⟨.inl (b,m,((i:Nat):Int), -1,ln,l), ?_, ?_⟩
   ·simp only[dn,d,aO,Vh,XB,Vn];rfl
   ·simp only[bZ,d0,Vn,Ou l h4.short,Vh,CM]
    by_cases H:fJ l=0
    ·simp only[H,VS,Vt,Vn,VW]
    ·simp only[H,Xh,VB,Vo,VQ]
  | @bad _ _ _ q D hs=>
   obtain⟨⟨s,c⟩,hz,a,hc⟩:=yh m Z b r i ln h1 h2 hb hs
   simp only at hc
   subst hc
   have hi:i<b.length:=by
    have:0<r.length:=WI.2 D
    omega
   have g:decide ((0:Int)<=((b.length - q.length:Nat):Int))=true:=VX oM
   refine .inr ⟨.inl (b,m,a,((b.length - q.length:Nat):Int),ln,l++[s]), ?_, ?_⟩
   ·simp only[dn,aX hi,aO,Vh,W7,Vo,hz,g]
    rw[bU (by simp only[VI];omega)]
    rfl
   ·simp only[bZ,g,Vo,CM]
  | @stop _ _ _ s q D hs ho B=>
   obtain⟨⟨s',c⟩,hz,hc⟩:=yh m Z b r i ln h1 h2 hb hs
   simp only[Kk,Vm] at hc
   rw[hc.1,hc.2] at hz
   obtain⟨u,hu⟩:=yZ hs
   have hq:=jc h1 h2 hu
   have w:=(CG hs).2 _ _ rfl
   have hi:i<b.length:=by omega
   have e:=Gd hq oM
   have t:decide (((l++[s]).length:Int)=1)=false:=VY (by
    have:0<l.length:=WI.2 ho
    simp only[Vl,VI];omega)
   have s0:decide (ln=ei q)=false:=VY B
   have g:decide ((0:Int)<=((b.length - q.length:Nat):Int))=true:=VX oM
   refine .inr ⟨.inl (b,m,((b.length - q.length:Nat):Int),((b.length - q.length:Nat):Int),ln,l++[s]), ?_, ?_⟩
   ·simp only[dn,aX hi,aO,Vh,W7,Vo,hz,d0,Vn]
    rw[bU (by simp only[VI];omega)]
    simp only[e,Vh,t,Vn,s0,VB,Vo,sK]
    rfl
   ·simp only[bZ,g,Vo,CM]
  | @more _ _ _ s q _ D hs ho r9=>
   obtain⟨⟨s',c⟩,hz,hc⟩:=yh m Z b r i ln h1 h2 hb hs
   simp only[Kk,Vm] at hc
   rw[hc.1,hc.2] at hz
   obtain⟨u,hu⟩:=yZ hs
   have hq:=jc h1 h2 hu
   have w:=(CG hs).2 _ _ rfl
   have hi:i<b.length:=by omega
   have e:=Gd hq oM
   have r0:(if ei q=true then q.tail else q).length<=q.length:=by split<;>simp
   have j:b.drop (b.length - (if ei q=true then q.tail else q).length)=(if ei q=true then q.tail else q):=by
    cases C:ei q with
    |false=>simpa using hq
    |true=>
     simp only[VW]
     have h9:=rJ C
     refine jc (u:=u++[10]) h1 h2 ?_
     rw[hu]
     conv=>lhs;rw[h9]
     simp
   refine .inl ⟨.inl (b.length - (if ei q=true then q.tail else q).length,(if ei q=true then q.tail else q),l++[s],ei q),⟨j,by omega,by simp;omega,h4.snoc (Ge hs),r9⟩,by simp only;omega, ?_⟩
   simp only[dn,aX hi,aO,Vh,W7,Vo,hz,d0,Vn]
   rw[bU (by simp only[VI];omega)]
   simp only[e,Vh]
   have f:ei q=true->b.length - q.tail.length=b.length - q.length+1:=fun C=>by
    have:=Wf List.length (rJ C)
    simp only[Vk] at this
    omega
   by_cases h0:l=[]
   ·have t:decide (((l++[s]).length:Int)=1)=true:=VX (by rw[h0];rfl)
    simp only[t,Vo]
    cases C:ei q with
    |false=>simp only[Vn,Vw,VQ]
    |true=>simp only[Vo,VW,aW _ (show b.length - q.length<9223372036854775807 by omega),f C]
   ·have t:decide (((l++[s]).length:Int)=1)=false:=VY (by
     have:0<l.length:=WI.2 h0
     simp only[Vl,VI];omega)
    have s0:ln=ei q:=ho.resolve_left h0
    simp only[t,Vn,s0,VS,Vt]
    cases C:ei q with
    |false=>simp only[Vn,Vw,VQ]
    |true=>simp only[Vo,VW,aW _ (show b.length - q.length<9223372036854775807 by omega),f C]
 ·obtain⟨q,h1,h2⟩:=hP
  have dn:decide (((z:Nat):Int)<0)=false:=VY oM
  have g:decide ((0:Int)<=((z:Nat):Int))=true:=VX oM
  refine .inr ⟨.inl (b,m,a,((z:Nat):Int),ln,l), ?_, ?_⟩
  ·simp only[dn,lD,Vn,Vh];rfl
  ·rw[h1]
   simp only[bZ,g,Vo,CM]
   rw[h2]
end
section
open Go.RowKit
set_option linter.unusedSimpArgs false
set_option linter.unusedVariables false
variable {s:aa}
theorem ub {α:Type} {h:α->Int}:∀ {l:List α},(∀ e∈l,h e=0)->lU h l=0
 |[],_=>rfl
 |e::l,hl=>by
  unfold lU
  rw[Wy (hl e oS)]
  exact ub fun e he=>hl e (by simp[he])
theorem Of {l:List (List UInt8)}:yM l=0↔(1<=l.length/\l.length<=20/\∀ t∈l,qP t=0):=by
 unfold yM
 by_cases h1:l.length=0
 ·simp[h1]
 ·by_cases h2:20<l.length
  ·simp[h1,h2];omega
  ·rw[WU h1,WU h2]
   exact⟨fun h=>⟨by omega,by omega,hw h⟩,fun h=>ub h.2.2⟩
theorem LW {e:ak}:mD e=0↔(1<=e.fRepeats.length/\e.fRepeats.length<=20/\∀ t∈e.fRepeats,yM t=0):=by
 unfold mD
 by_cases h1:e.fRepeats.length=0
 ·simp[h1]
 ·by_cases h2:20<e.fRepeats.length
  ·simp[h1,h2];omega
  ·rw[WU h1,WU h2]
   exact⟨fun h=>⟨by omega,by omega,hw h⟩,fun h=>ub h.2.2⟩
theorem Og:xK s=0↔(q6 s.fTag=true/\s.fElements.length<=50/\∀ e∈s.fElements,mD e=0):=by
 unfold xK
 by_cases h1:q6 s.fTag=false
 ·simp[h1]
 ·by_cases h2:50<s.fElements.length
  ·simp[h1,h2];intro h;omega
  ·rw[WU h1,WU h2]
   exact⟨fun h=>⟨by simpa using h1,by omega,hw h⟩,fun h=>ub h.2.2⟩
theorem Ss (h:xK s=0):s_ s:=by
 obtain⟨_,h2,E⟩:=Og.1 h
 refine⟨by omega,fun e he=> ?_⟩
 obtain⟨_,h5,h6⟩:=LW.1 (E e he)
 refine⟨by omega,fun p Y=> ?_⟩
 obtain⟨_,h8,_⟩:=Of.1 (h6 p Y)
 omega
theorem D8 (l:List (List UInt8)) (hl:l.length<=137438953472):ia l l=some true:=by
 unfold ia bJ;dsimp only
 simp only[VS,Vt,Vn]
 refine dO (a:= .inl (l.length:Int)) (nI (fun i=>(i:Int)) l.length (fun i hi=> ?_) ?_) rfl
 ·obtain⟨e,he⟩:=dl hi
  simp only[aX hi,Vo,am,he,Vh,VS,Vt,Vn,aW i oM]
 ·simp only[aB,Vn];rfl
theorem G6 (x:aa) (hx:s_ x):gK x x=some true:=by
 obtain⟨h1,h2⟩:=hx
 unfold gK f6;dsimp only
 simp only[VS,Vt,bx,Xn,Vh,Vn]
 refine dO (a:= .inl (x.fElements.length:Int)) (nI (fun i=>(i:Int)) x.fElements.length (fun i hi=> ?_) ?_) rfl
 ·obtain⟨e,he⟩:=dl hi
  obtain⟨E,h4⟩:=h2 e (Vq he)
  simp only[aX hi,Vo,am,he,Vh,VS,Vt,Vn,aW i oM]
  refine dO (a:= .inl (e.fRepeats.length:Int)) (nI (fun i=>(i:Int)) e.fRepeats.length (fun k hk=> ?_) ?_) rfl
  ·obtain⟨p,Y⟩:=dl hk
   simp only[aX hk,Vo,am,Y,Vh,D8 p (h4 p (Vq Y)),Vt,Vn,aW k oM]
  ·simp only[aB,Vn];rfl
 ·simp only[aB,Vn];rfl
theorem ER (l:List aa) (hl:l.length<=137438953472) (hx:∀ x∈l,s_ x):gz l l=some true:=by
 unfold gz js;dsimp only
 simp only[VS,Vt,Vn]
 refine dO (a:= .inl (l.length:Int)) (nI (fun i=>(i:Int)) l.length (fun i hi=> ?_) ?_) rfl
 ·obtain⟨e,he⟩:=dl hi
  simp only[aX hi,Vo,am,he,Vh,G6 e (hx e (Vq he)),Vt,Vn,aW i oM]
 ·simp only[aB,Vn];rfl
theorem jd {m:ab} (h:jS m=0):e9 m.fElement=true/\e9 m.fEnd=true/\m.fElement≠m.fEnd:=by
 unfold jS at h
 split at h
 ·cases h
 ·rename_i hb
  split at h
  ·cases h
  ·rename_i ht
   unfold JV at hb
   unfold zI at ht
   simp only[V8,not_or] at hb ht
   obtain⟨⟨⟨⟨b1,b2⟩,b3⟩,c⟩,d⟩:=hb
   obtain⟨⟨⟨⟨⟨⟨⟨⟨⟨j,t2⟩,t3⟩,t4⟩,t5⟩,g⟩,i⟩,k⟩,t9⟩,f⟩:=ht
   exact⟨by simpa using b1,by simpa using c,fun e=>t4 ((uo _ _).2 e.symm)⟩
abbrev WQ:=List UInt8×List Iw×List Int×Bool
def w0:WQ:=([],[],[],false)

variable {acc:List ak} {k:UInt8} {m:ab} {p:List ce} {q r:ce} {res:ce⊕(List ak×ce)} {t:ce} {xs:List (List ce)}
def vQ (m:ab) (k:UInt8) (t:ce):ce:=k::ue m t
def EA (m:ab) (k:UInt8):List ce->ce
 |[]=>[]
 |t::ps=>vQ m k t++ps.flatMap (vQ m m.fPart)
def rI (m:ab):List (List ce)->ce
 |[]=>[]
 |p::xs=>EA m m.fElement p++xs.flatMap (EA m m.fRepeat)
def Ga (m:ab) (l:List ak):ce:=l.flatMap fun e=>rI m e.fRepeats
def Pi (m:ab) (lines:Bool) (s:aa):ce:=s.fTag++Ga m s.fElements++Ei m lines
def te (m:ab) (lines:Bool) (l:List aa):ce:=l.flatMap (Pi m lines)
theorem un {α β b:Type} {f:Nat->α->List β} {g:β->List b} {c:α->List b} {i0:Nat} (h:∀ i e,i0<=i->(f i e).flatMap g=c e):∀ (l:List α) (i:Nat),i0<=i->(en f i l).flatMap g=l.flatMap c
 |[],_,_=>rfl
 |x::l,i,hi=>by simp only[en,XC,h i x hi,un h l (i+1) oM,WB]
def CF (m:ab) (p:Mp):ce:=p.mark::ue m p.t
theorem MK (m:ab) (e r:Nat) (l:List ce):(zL m e r l).flatMap (CF m)=EA m (if 0<r then m.fRepeat else m.fElement) l:=by
 unfold zL
 cases l with
 |nil=>rfl
 |cons t ps=>
  have h1:(en (zK m e r) 1 ps).flatMap (CF m)=ps.flatMap (vQ m m.fPart):=un (i0:=1) (fun i t hi=>by
   simp only[zK,WB,List.flatMap_nil,VL,CF,vQ,BF,Wy (show 0<i by omega)]) ps 1 (Vs _)
  show(en (zK m e r) 0 (t::ps)).flatMap (CF m)=_
  simp only[en,XC,VD,h1,EA]
  simp[zK,CF,vQ,BF]
theorem Rp (m:ab) (e:Nat) (x:ak):(AV m e x).flatMap (CF m)=rI m x.fRepeats:=by
 unfold AV
 cases h:x.fRepeats with
 |nil=>rfl
 |cons p xs=>
  have h1:(en (zL m e) 1 xs).flatMap (CF m)=xs.flatMap (EA m m.fRepeat):=un (i0:=1) (fun i t hi=>by
   rw[MK,Wy (show 0<i by omega)]) xs 1 (Vs _)
  show(en (zL m e) 0 (p::xs)).flatMap (CF m)=_
  simp only[en,XC,VD,h1,rI,MK,Nat.lt_irrefl,VQ]
theorem Rq (m:ab) (s:aa):(B8 m s).flatMap (CF m)=Ga m s.fElements:=by
 unfold B8 Ga
 exact un (i0:=0) (fun i t _=>Rp m i t) _ 0 (Vs _)
def Ld (m:ab) (t:ce):Prop:=m.fEscape.toNat≠0\/AQ m t=0
theorem E4 (m:ab) (b:UInt8) (t:ce):ue m (b::t)=(if Co m b=true/\m.fEscape.toNat≠0 then[m.fEscape,b] else[b])++ue m t:=by simp[ue]
theorem Hu (m:ab) (x:UInt8):zY m x=true↔m.fEscape.toNat≠0/\x=m.fEscape:=by
 unfold zY
 simp only[Vj,Wb,VJ,Vv]
 constructor
 ·rintro⟨h1,h2⟩;exact⟨by omega,W4.1 oM⟩
 ·rintro⟨h1,h2⟩;exact⟨by omega,by rw[h2]⟩
theorem Le (m:ab) (b:UInt8) (t:ce):AQ m (b::t)=AQ m t+if Co m b=true then 1 else 0:=by simp[AQ,List.countP_cons]
theorem I4 (m:ab):∀ (n:Nat) (r:ce),r.length<=n->∀ t q,dm m r= .inr (t,q)->r=ue m t++q/\Ld m t
 |n,[],_,t,q,h=>by rw[dm] at h;cases h
 |0,x::r,h,_,_,_=>by simp at h
 |n+1,x::r,hn,t,q,h=>by
  have D:r.length<=n:=by simpa using hn
  unfold dm at h
  split at h
  ·rename_i he
   obtain⟨hz,hx⟩:=(Hu m x).1 he
   cases r with
   |nil=>cases h
   |cons y r=>
    simp only at h
    split at h
    ·rename_i hy
     cases Y:dm m r with
     |inl p=>rw[Y] at h;cases h
     |inr a=>
      obtain⟨o,p⟩:=a
      rw[Y] at h
      obtain⟨h1,h2⟩:=I4 m n r (by simp at D;omega) o p Y
      cases h
      refine⟨?_,.inl hz⟩
      rw[E4,Wy ⟨hy,hz⟩,h1,hx]
      simp
    ·cases h
  ·split at h
   ·cases h;exact⟨rfl,.inr rfl⟩
   ·rename_i Z
    split at h
    ·cases h
    ·cases Y:dm m r with
     |inl p=>rw[Y] at h;cases h
     |inr a=>
      obtain⟨o,p⟩:=a
      rw[Y] at h
      obtain⟨h1,h2⟩:=I4 m n r D o p Y
      cases h
      refine⟨?_, ?_⟩
      ·rw[E4,WU (fun h=>Z h.1),h1];simp
      ·unfold Ld at h2⊢
       rw[Le,WU Z]
       exact h2
theorem Ce (h:dm m r= .inr (t,q)):r=ue m t++q/\Ld m t:=I4 m r.length r (Vs _) t q h
theorem I5 {y:UInt8} (h1:Co m y=true) (h2:zY m y=false) (E:¬ (y=m.fElement\/y=m.fEnd)):y=m.fRepeat\/y=m.fPart:=by
 have e:∀ b:UInt8,decide ((y.toNat:Int)=(b.toNat:Int))=true->y=b:=fun b h=>W4.1 (by have:=Xy h;omega)
 unfold Co at h1
 unfold zY at h2
 rw[h2,Bool.or_false] at h1
 simp only[V8] at h1
 rcases h1 with((h|h)|h)|h
 ·exact absurd (.inl (e _ h)) E
 ·exact .inr (e _ h)
 ·exact .inl (e _ h)
 ·exact absurd (.inr (e _ h)) E
theorem Lf (h:k=m.fRepeat\/xs≠[]):∃ ys p,pg m k xs t=ys++[p++[t]]:=by
 unfold pg
 split
 ·exact⟨xs,[],jb xs [] t⟩
 ·rename_i hk
  rcases h with h|h
  ·exact absurd h hk
  ·have:=Xe h
   refine⟨xs.dropLast,xs.getLast h, ?_⟩
   rw[<-jb,this]
theorem Lg (m:ab) {ys:List (List ce)} (h:ys≠[]) (t:ce):rI m (ys++[[t]])=rI m ys++vQ m m.fRepeat t:=by
 cases ys with
 |nil=>exact absurd rfl h
 |cons y ys=>simp[rI,EA]
theorem E5 (m:ab) (k:UInt8) (h:p≠[]) (t:ce):EA m k (p++[t])=EA m k p++vQ m m.fPart t:=by
 cases p with
 |nil=>exact absurd rfl h
 |cons y ys=>simp[EA]
theorem I6 (m:ab) (ys:List (List ce)) (h:p≠[]) (t:ce):rI m (ys++[p++[t]])=rI m (ys++[p])++vQ m m.fPart t:=by
 cases ys with
 |nil=>simp[rI,E5 m m.fElement h]
 |cons y ys=>simp[rI,E5 m m.fRepeat h]
theorem Uy {res:ce⊕(List (List ce)×ce)} (h:I7 m k xs r res) (c:m.fPart≠m.fRepeat):∀ (P:ce),(k=m.fRepeat\/xs≠[])->(∀ t,rI m (pg m k xs t)=P++ue m t)->∀ U q',res= .inr (U,q')->P++r=rI m U++q':=by
 induction h with
 |bad=>intro _ _ _ _ _ h;cases h
 |fin Y hy=>
  intro P hk hP U q' h
  cases h
  rw[hP,(Ce Y).1,Vy]
 | @more k xs r t y q res Y hy _ ih=>
  intro P hk hP U q' h
  have a:y=m.fRepeat\/y=m.fPart:=by
   obtain⟨_,_,y',t',e,h1,h2⟩:=pC Y
   cases e
   exact I5 h1 h2 hy
  have:=ih (rI m (pg m k xs t)++[y]) (.inr (Kh hk)) (fun t'=> ?_) U q' h
  ·rw[<-this,hP,(Ce Y).1];simp
  ·obtain⟨ys,p,e⟩:=Lf (t:=t) hk
   rw[e]
   rcases a with rfl|rfl
   ·unfold pg
    rw[Wy rfl,jb,VC,Lg m oS]
    simp[vQ]
   ·unfold pg
    rw[WU c,jb,I6 m ys oS]
    simp[vQ]
def EB (m:ab) (xs:List (List ce)):Prop:=∀ p∈xs,∀ t∈p,Ld m t
theorem Hv (h:EB m xs) (ht:Ld m t):EB m (Gb xs t):=by
 by_cases h0:xs=[]
 ·subst h0;exact h
 ·rw[<-Xe h0,jb]
  rw[<-Xe h0] at h
  intro p Y u hu
  rcases VM.1 Y with Y|Y
  ·exact h p (Wk _ Y) u hu
  ·have Y:=V1.1 Y
   subst Y
   rcases VM.1 hu with hu|hu
   ·exact h _ (List.mem_append_right _ (V1.2 rfl)) u hu
   ·rw[V1.1 hu];exact ht
theorem Hw (h:EB m xs) (ht:Ld m t):EB m (pg m k xs t):=by
 unfold pg
 split
 ·refine Hv (fun p Y u hu=> ?_) ht
  rcases VM.1 Y with Y|Y
  ·exact h p Y u hu
  ·rw[V1.1 Y] at hu;cases hu
 ·exact Hv h ht
theorem Rr {res:ce⊕(List (List ce)×ce)} (h:I7 m k xs r res):EB m xs->∀ U q',res= .inr (U,q')->EB m U:=by
 induction h with
 |bad=>intro _ _ _ h;cases h
 |fin Y hy=>intro hx U q' h;cases h;exact Hw hx (Ce Y).2
 |more Y hy _ ih=>exact fun hx=>ih (Hw hx (Ce Y).2)
theorem Tj (c:m.fPart≠m.fRepeat) (h:zZ m acc r res):(∀ e∈acc,EB m e.fRepeats)->∀ a q',res= .inr (a,q')->Ga m acc++r=Ga m a++q'/\∀ e∈a,EB m e.fRepeats:=by
 induction h with
 |fin hy=>intro ha _ _ h;cases h;exact⟨rfl,ha⟩
 |bad he=>intro _ _ _ h;cases h
 | @more acc q xs q' res he _ ih=>
  intro ha a q2 h
  have h1:=Uy he c [m.fElement] (.inl rfl) (fun t=>by
   unfold pg
   rw[Wy rfl,jb [] [] t]
   simp[rI,EA,vQ]) _ _ rfl
  obtain⟨h2,E⟩:=ih (fun e g=>by
   rcases VM.1 g with h|h
   ·exact ha e h
   ·rw[V1.1 h];exact Rr he (fun _ h=>by cases h) _ _ rfl) a q2 h
  refine⟨?_,E⟩
  have e:Ga m (acc++[⟨xs⟩])=Ga m acc++rI m xs:=by simp[Ga]
  rw[<-h2,e,Vy,<-h1];rfl
theorem Rs (h:OV m acc r res):∀ a q',res= .inr (a,q')->∃ q,q'=m.fEnd::q:=by
 induction h with
 |fin=>intro _ _ h;cases h;exact⟨_,rfl⟩
 |bad _ _=>intro _ _ h;cases h
 |more _ _ _ ih=>exact ih
theorem Tk (c:m.fPart≠m.fRepeat) (hE:m.fElement≠m.fEnd) {s:aa} (h:xy m r (.inr (s,q))):r=s.fTag++(Ga m s.fElements++m.fEnd::q)/\(∀ e∈s.fElements,EB m e.fRepeats)/\q6 s.fTag=true:=by
 cases h with
 |ok ht he=>
  obtain⟨h1,⟨f,D,h2,E⟩,h4⟩:=p0 ht
  have C:=MO hE he (fun y q h=>by rw[h2] at h;cases h;exact E)
  obtain⟨q3,hq⟩:=Rs C _ _ rfl
  obtain⟨h5,h6⟩:=Tj c he (fun _ h=>by cases h) _ _ rfl
  rw[V9] at hq
  rw[hq.1] at h5
  refine⟨?_,h6,h4⟩
  rw[h1]
  congr 1
theorem ML (c:m.fPart≠m.fRepeat) (hE:m.fElement≠m.fEnd) {out:List aa} {ln:Bool} {res:ce⊕(List aa×Bool)} (h:sy m out ln r res):∀ x p,res= .inr (x,p)->(out≠[]->p=ln)/\∃ ys,x=out++ys/\r=te m p ys/\(∀ s∈ys,∀ e∈s.fElements,EB m e.fRepeats):=by
 induction h with
 |nil=>intro x p h;cases h;exact⟨fun _=>rfl,[],by simp,rfl,fun _ h=>by cases h⟩
 |bad=>intro _ _ h;cases h
 |stop=>intro _ _ h;cases h
 | @more out ln r s q res h0 hs hc _ ih=>
  intro x p h
  obtain⟨h1,ys,h2,E,h4⟩:=ih x p h
  have Y:p=ei q:=h1 oS
  obtain⟨h5,h6, -⟩:=Tk c hE hs
  refine⟨fun ho=> ?_,s::ys,by rw[h2];simp, ?_, ?_⟩
  ·rcases hc with hc|hc
   ·exact absurd hc ho
   ·rw[Y,hc]
  ·have e:q=(if p=true then[10] else[])++te m p ys:=by
    rw[<-E]
    split
    ·rename_i h8
     rw[Y] at h8
     rw[Wy h8]
     exact rJ h8
    ·rename_i h8
     rw[Y] at h8
     rw[WU h8];rfl
   rw[h5,te,WB,Pi]
   conv=>lhs;rw[e]
   cases p<;>simp[Ei,te]
  ·intro t ht
   rcases VK.1 ht with rfl|ht
   ·exact h6
   ·exact h4 t ht
variable {b:List UInt8} {m:ab}
theorem JY (h:no [77,82,75] b 0=none):∃ t,b=77::82::75::t:=by
 match b,h with
 |[],h=>simp[no] at h
 |x::b,h=>
  simp only[no] at h
  by_cases hx:x=77
  ·rw[Wy hx] at h
   match b,h with
   |[],h=>simp[no] at h
   |y::b,h=>
    simp only[no] at h
    by_cases hy:y=82
    ·rw[Wy hy] at h
     match b,h with
     |[],h=>simp[no] at h
     |z::b,h=>
      simp only[no] at h
      by_cases hz:z=75
      ·exact⟨b,by rw[hx,hy,hz]⟩
      ·rw[WU hz] at h;cases h
    ·rw[WU hy] at h;cases h
  ·rw[WU hx] at h;cases h
theorem Ow {i:Int} (h:o8 b=(m,i,0)):jS m=0/\b=nH m++b.drop 8:=by
 cases hh:no [77,82,75] b 0 with
 |some k=>unfold o8 at h;rw[hh] at h;simp at h
 |none=>
  by_cases h8:b.length<8
  ·rw[wZ h8 hh] at h;simp at h
  ·obtain⟨t0,d⟩:=JY hh
   obtain⟨a0,a1,a2,a,p,r,e,z,t,rfl⟩:=G8 h8
   simp only[V9] at d
   obtain⟨rfl,rfl,rfl,_⟩:=d
   rw[yL rfl hh] at h
   unfold o8.mk at h
   by_cases he:e=0
   ·rw[Wy he] at h;simp at h
   ·rw[WU he] at h
    by_cases Z:jS ⟨a,p,r,if e=32 then 0 else e,z⟩=0
    ·rw[Wy Z] at h
     simp only[Vm] at h
     obtain⟨rfl,_⟩:=h
     refine⟨Z, ?_⟩
     have:(if(if e=32 then(0:UInt8) else e)=0 then(32:UInt8) else(if e=32 then 0 else e))=e:=by
      by_cases c:e=32
      ·rw[Wy c,Wy rfl,c]
      ·rw[WU c,WU he]
     show _=77::82::75::a::p::r::(if(if e=32 then(0:UInt8) else e)=0 then(32:UInt8) else(if e=32 then 0 else e))::z::t
     rw[this]
    ·rw[WU Z] at h
     simp only[Vm] at h
     exact absurd h.2.2 Z
theorem Ox (m:ab) (seg:Int):∀ (l:List Mp) (w:RT),(nq m seg w l).1=w.1++l.flatMap (CF m)
 |[],w=>by simp[nq]
 |p::l,w=>by
  show(nq m seg (zJ m seg w p) l).1=_
  rw[Ox m seg l]
  simp[zJ,CF]
theorem SL (m:ab) (lines:Bool) (i:Nat) (w:RT) (s:aa):(JX m lines i w s).1=w.1++Pi m lines s:=by
 unfold JX
 simp only[Ox,Rq,uf,Pi,Vy]
theorem KU (m:ab) (lines:Bool):∀ (l:List aa) (i:Nat) (w:RT),(pa m lines i w l).1=w.1++te m lines l
 |[],i,w=>by simp[pa,te]
 |s::l,i,w=>by
  show(pa m lines (i+1) (JX m lines i w s) l).1=_
  rw[KU m lines l,SL]
  simp[te]
theorem Oy (c:m.fPart≠m.fRepeat) (hE:m.fElement≠m.fEnd) {b:ce} {x:List aa} {p:Bool} {st:List Int} (hb:sy m [] false b (.inr (x,p))) (h:Ry m b (.inr (x,p)) st) {k:Nat} {n:Int} (hk:st[k]?=some n) (hx:k<=x.length):n=((te m p (x.take k)).length:Int):=by
 obtain⟨j,out,ln,e1,e2,e3,hc⟩:=h k n hk
 obtain⟨_,ys,A,C,_⟩:=ML c hE hc x p rfl
 obtain⟨_,zs,g1,g2,_⟩:=ML c hE hb x p rfl
 rw[VC] at g1
 subst g1
 have ht:x.take k=out:=by rw[A,<-e3];simp
 have h1:=Wf List.length C
 have h2:=Wf List.length g2
 rw[Wd] at h1
 have E:te m p x=te m p out++te m p ys:=by rw[A];simp[te]
 rw[E,Vl] at h2
 rw[ht,e1]
 omega
variable {b:UInt8} {i:Nat} {l:List UInt8} {p:UInt8->Bool}
def nv (n lo hi:Int):Bool:=decide (n<lo)||decide (hi<n)
theorem Er (n lo hi:Int):ng n lo hi=some (nv n lo hi):=by
 unfold ng bj;dsimp only
 simp only[bx,Vh,nv]
def Es:List UInt8:=[65,66,67,68,69,70,71,72,73,74,75,76,77,78,79,80,81,82,83,84,85,86,87,88,89,90,48,49,50,51,52,53,54,55,56,57,45]
theorem pb {p:UInt8->Bool}:∀ {l:List UInt8},l.dropWhile p=[]↔∀ x∈l,p x=true
 |[]=>by simp
 |a::l=>by
  rw[XH]
  by_cases h:p a=true
  ·simp[h,pb (l:=l)]
  ·simp[h]
theorem vh {p:UInt8->Bool} {a:UInt8} {r:List UInt8}:∀ {l:List UInt8},l.dropWhile p=a::r->p a=false
 |[],h=>by simp at h
 |b::l,h=>by
  rw[XH] at h
  by_cases Y:p b=true
  ·simp only[Y,VW] at h;exact vh h
  ·simp only[Y] at h
   simp at h;rw[<-h.1];simpa using Y
theorem Mk (l cs:List UInt8):Lib.trimS l cs=[]↔∀ x∈l,cs.contains x=true:=by
 unfold Lib.trimS Lib.trimLeftS Lib.trimRightS
 constructor
 ·intro h
  have h1:List.dropWhile (fun x=>cs.contains x) l.reverse=[]:=by
   cases D:List.dropWhile (fun x=>cs.contains x) l.reverse with
   |nil=>rfl
   |cons a r=>
    exfalso
    have h2:=vh D
    rw[D,pb] at h
    have E:=h a oS
    rw[h2] at E;cases E
  rw[pb] at h1
  intro x hx
  exact h1 x (by simpa using hx)
 ·intro h
  have h1:List.dropWhile (fun x=>cs.contains x) l.reverse=[]:=pb.2 fun x hx=>h x (by simpa using hx)
  rw[h1];rfl
def ta (b:UInt8):Bool:=Es.contains b
def eV (s:List UInt8):Bool:=decide (1<=s.length/\s.length<=14)&&s.all ta
theorem OQ (s:List UInt8):decide (Lib.trimS s Es=[])=s.all ta:=by
 rw[Wa,Vv,Mk,VN];rfl
theorem J2 (b:UInt8):ta b=decide ((65<=b.toNat/\b.toNat<=90)\/(48<=b.toNat/\b.toNat<=57)\/b.toNat=45):=by
 have h:∀ n,n<256->ta (UInt8.ofNat n)=decide ((65<=n/\n<=90)\/(48<=n/\n<=57)\/n=45):=by decide+kernel
 have:=h b.toNat b.toNat_lt
 simpa using this
theorem QD (s:List UInt8) (hs:s.length<=9223372036854775807):gS s Es=some (Lib.trimS s Es):=by
 unfold gS
 rw[Wy ⟨hs,by decide,by decide⟩]
theorem uj (s:List UInt8) (hs:s.length<=9223372036854775807):wu s=some (eV s):=by
 have ht:=QD s hs
 have ha:=OQ s
 unfold Es at ht ha
 unfold wu bj;dsimp only
 simp only[ht,Vh,ha,aO]
 congr 1;unfold eV
 rw[Wa];simp;omega
theorem EZ (hb:l[i]?=some b) (h:(l.take i).all p=true) (Y:p b=true):(l.take (i+1)).all p=true:=by
 rw[Xz,hb];simp only[Option.toList_some,Xu,h,Wv,Y];rfl
theorem QE (hb:l[i]?=some b) (Y:p b=false):l.all p=false:=by
 rw[List.all_eq_false];exact⟨b,Vq hb,by simp[Y]⟩
theorem pc (s:List UInt8) (hs:s.length<=9223372036854775807):ex s=some (eV s):=by
 unfold ex cc;dsimp only
 generalize C:(fun n:Int=>_)=f
 obtain⟨a,ha,Y⟩:=LO (f:=f) (fun i=>∃ k:Nat,i=k/\k<=s.length/\(s.take k).all ta=true) (fun i=>(s.length - i).toNat)
  (fun o=>match o with| .inl _=>s.all ta=true| .inr b=>b=false/\s.all ta=false) (s:=0) (by
   rintro _ ⟨k,rfl,hk,W⟩
   subst C
   by_cases h9:k<s.length
   ·obtain⟨c,hc⟩:∃ c,s[k]?=some c:=⟨_,Vu h9⟩
    have hb:=J2 c
    have hd:decide ((k:Int)<s.length)=true:=by simpa using h9
    simp only[hd,Vo,am,hc,Vh,aO,bx]
    cases D:ta c with
    |true=>
     refine .inl ⟨((k+1:Nat):Int), ?_,⟨k+1,rfl,h9,EZ hc W D⟩,by omega⟩
     rw[D] at hb
     rw[aW k oM]
     have:(!(decide (65<=(c.toNat:Int))&&decide ((c.toNat:Int)<=90)||decide (48<=(c.toNat:Int))&&decide ((c.toNat:Int)<=57)||decide ((c.toNat:Int)=45)))=false:=by
      simp at hb⊢;omega
     rw[this];rfl
    |false=>
     refine .inr ⟨.inr false, ?_,rfl,QE hc D⟩
     rw[D] at hb
     have:(!(decide (65<=(c.toNat:Int))&&decide ((c.toNat:Int)<=90)||decide (48<=(c.toNat:Int))&&decide ((c.toNat:Int)<=57)||decide ((c.toNat:Int)=45)))=true:=by
      simp at hb⊢;omega
     rw[this];rfl
   ·have hd:decide ((k:Int)<s.length)=false:=by simpa using h9
    refine .inr ⟨.inl k, ?_, ?_⟩
    ·simp only[hd,Vn];rfl
    ·rw[VO oM] at W;exact W) ⟨0,rfl,by omega,by simp⟩
 rw[ha]
 cases a with
 |inl i=>
  simp only[Vh,bZ,aO,eV,Y,Xb]
  congr 1;rw[Wa];cases s<;>simp<;>omega
 |inr b=>obtain⟨rfl,h⟩:=Y;simp only[Vh,bZ,eV,h,XB]
def kF (f:Nat->Int):Nat->Nat->Int
 |_,0=>0
 |i,n+1=>if f i≠0 then f i else kF f (i+1) n
theorem xd {f:Nat->Int}:∀ (i n k:Nat),k<=n->(∀ j,i<=j->j<i+k->f j=0)->kF f i n=kF f (i+k) (n - k)
 |i,n,0,_,_=>by simp
 |i,0,k+1,h,_=>by omega
 |i,n+1,k+1,h,hz=>by
  have h1:=hz i oM oM
  simp only[kF,h1,ne_eq,not_true_eq_false,VQ]
  rw[xd (i+1) n k oM (fun j hj X=>hz j oM oM)]
  congr 1<;>omega
theorem n5 {α:Type} (l:List α) (n:Nat) (h:n<=l.length):b5 l 0 (n:Int)=some (l.take n):=by
 unfold b5
 rw[Wy oM];simp
variable {α:Type}
abbrev MX:Nat:=9223372036854775807
theorem uX {S:Type} (st:Nat->S) {n:Nat} {g:Nat->Int} {f:S->Option (S⊕(S⊕Int))} (C:∀ i,i<n->f (st i)=if g i=0 then some (.inl (st (i+1))) else some (.inr (.inr (g i)))) (he:f (st n)=some (.inr (.inl (st n)))) (K:S->Option Int):(bn f (st 0)).bind (bZ K)=if kF g 0 n=0 then K (st n) else some (kF g 0 n):=by
 have h:=sm (f:=f) (z:= .inl (st n)) st n (fun i=>if g i=0 then none else some (.inr (g i))) (fun i hi L=>by
  rw[C i hi]
  by_cases hz:g i=0
  ·rw[Wy hz]
  ·simp only[hz,VQ] at L;cases L) (fun i a hi L=>by
  rw[C i hi]
  by_cases hz:g i=0
  ·simp only[hz,VW] at L;cases L
  ·simp only[hz,VQ,Vi] at L;rw[WU hz,L]) he
 rw[h]
 rcases o7 (fun i=>if g i=0 then(none:Option (S⊕Int)) else some (.inr (g i))) n with⟨h1,h2⟩|⟨k,a,h1,h2,E,h4⟩
 ·have:kF g 0 n=0:=by
   rw[xd 0 n n oM (fun j _ hj=>by
    have:=h2 j oM
    by_cases hz:g j=0
    ·exact hz
    ·simp only[hz,VQ] at this;cases this)]
   simp[kF]
  rw[h1,Wy this];rfl
 ·have hz:g k≠0:=by intro hz;simp only[hz,VW] at E;cases E
  have:kF g 0 n=g k:=by
   rw[xd 0 n k oM (fun j _ hj=>by
    have:=h2 j oM
    by_cases hz:g j=0
    ·exact hz
    ·simp only[hz,VQ] at this;cases this)]
   obtain⟨m,Z⟩:∃ m,n - k=m+1:=⟨n - k - 1,by omega⟩
   rw[Z,VD]
   simp only[kF,hz,ne_eq,not_false_eq_true,VW]
  rw[h4,this,WU hz]
  simp only[hz,VQ,Vi] at E
  rw[<-E];rfl
def xe (l:List α) (q:α->Bool) (c:Int) (k:Nat):Int:=match l[k]? with|some o=>if q o=true then c else 0|none=>0
theorem Et (l:List α) (q:α->Bool) (c:Int) (hc:c≠0) (i:Nat) (hi:i<=l.length):
  kF (xe l q c) 0 i=if(l.take i).any q=true then c else 0:=by
 have:∀ d k,k+d=i->kF (xe l q c) k d=if((l.take i).drop k).any q=true then c else 0:=by
  intro d
  induction d with
  |zero=>
   intro k hk
   have:(l.take i).drop k=[]:=WM (by rw[VA];omega)
   rw[this];simp[kF]
  |succ d ih=>
   intro k hk
   obtain⟨e,he⟩:=dl (l:=l) (i:=k) oM
   have ht:(l.take i)[k]?=some e:=by rw[WH oM,he]
   have hd:(l.take i).drop k=e::(l.take i).drop (k+1):=by
    have h9:=b9 ht
    rw[WC h9]
    congr 1
    rw[Vu h9] at ht;simpa using ht
   simp only[kF,xe,he]
   rw[hd,List.any_cons,ih (k+1) oM]
   cases hq:q e<;>simp[hc]
 have:=this i 0 oM
 simpa using this
def Eu (b:UInt8):Bool:=decide (97<=(b.toNat:Int))&&decide ((b.toNat:Int)<=122)
def vi (b:UInt8):Bool:=Eu b||(decide ((b.toNat:Int)=45)||(decide (48<=(b.toNat:Int))&&decide ((b.toNat:Int)<=57)))
def xx:List UInt8:=[97,98,99,100,101,102,103,104,105,106,107,108,109,110,111,112,113,114,115,116,117,118,119,120,121,122,48,49,50,51,52,53,54,55,56,57,45]
theorem Ml:(List.range 256).all (fun n=>xx.contains (UInt8.ofNat n)==vi (UInt8.ofNat n))=true:=by decide+kernel
theorem OR (b:UInt8):xx.contains b=vi b:=by
 have:=VN.1 Ml b.toNat (Wh.2 b.toNat_lt)
 have hb:UInt8.ofNat b.toNat=b:=by simp
 rw[hb] at this
 simpa using this
theorem Mm (l:List UInt8):decide (Lib.trimS l xx=[])=l.all vi:=by
 rw[Wa,Vv,IA,VN]
 simp only[OR]
def dP:List UInt8->Bool
 |[]=>false
 |b::l=>decide (l.length<=39)&&Eu b&&l.all vi
theorem tz (l:List UInt8) (hl:l.length<=MX):uP l=some (dP l):=by
 have ht:gS l xx=some (Lib.trimS l xx):=by
  unfold gS
  rw[Wy ⟨hl,by decide,by decide⟩]
 have hu:([97,98,99,100,101,102,103,104,105,106,107,108,109,110,111,112,113,114,115,116,117,118,119,120,121,122,48,49,50,51,52,53,54,55,56,57,45]:List UInt8)=xx:=rfl
 unfold uP bj;dsimp only
 rw[hu]
 cases l with
 |nil=>rfl
 |cons b l=>
  have L:aV (b::l) 0=some b:=rfl
  simp only[L,Vh,bx,ht,Mm,dP]
  have h1:decide (((b::l).length:Int)<1)=false:=by simp only[Vk];apply VY;omega
  have h2:decide (40<((b::l).length:Int))= !decide (l.length<=39):=by simp only[Vk];rw[Wa];simp<;>omega
  have E:(decide ((b.toNat:Int)<97)||decide (122<(b.toNat:Int)))= !Eu b:=by unfold Eu;rw[Wa];simp
  rw[h1,h2,Wm,Bool.or_assoc,E]
  cases hb:Eu b with
  |false=>simp
  |true=>cases decide (l.length<=39)<;>simp[vi,hb]
def zR (i:Nat) (b:UInt8):Bool:=Eu b||(decide (i≠0)&&vi b)
theorem tA (l:List UInt8) (hl:l.length<=MX):jI l=some (dP l):=by
 unfold MX at hl
 unfold jI cc;dsimp only
 generalize C:(fun s:Int=>_)=f
 have key:=FS (f:=f) l (fun i (_:Unit)=>(i:Int)) (fun i _ e=>if zR i e=true then some (.inl ()) else some (.inr (.inr false))) (fun _=>some (Sum.inl (l.length:Int))) (fun i e s he=>by
  subst C
  have hi:=b9 he
  simp only[aX hi,Vo,am,he,Vh,aO,bx,aW i oM]
  have h0:decide ((i:Int)=0)=decide (i=0):=by congr 1;apply propext;omega
  have h1:(!(decide (97<=(e.toNat:Int))&&decide ((e.toNat:Int)<=122))&&(decide ((i:Int)=0)||(!decide ((e.toNat:Int)=45)&& !(decide (48<=(e.toNat:Int))&&decide ((e.toNat:Int)<=57)))))= !zR i e:=by
   rw[h0]
   unfold zR vi Eu
   cases decide (97<=(e.toNat:Int))<;>cases decide ((e.toNat:Int)<=122)<;>by_cases v9:i=0<;>simp[v9]
  rw[h1]
  cases zR i e<;>rfl) (fun s=>by
  subst C
  simp only[aB,Vn];rfl) ()
 rw[show((0:Nat):Int)=0 from rfl] at key
 rw[key]
 have h2:∀ (t:List UInt8) (i:Nat),0<i->Ee (fun i (_:Unit) e=>if zR i e=true then some (.inl ()) else some (.inr (.inr false))) (fun _=>some (Sum.inl (l.length:Int))) t i ()=if t.all vi=true then some (.inl (l.length:Int)) else some (.inr false):=by
  intro t
  induction t with
  |nil=>intro i _;rfl
  |cons b t ih=>
   intro i hi
   simp only[Ee]
   have:zR i b=vi b:=by
    unfold zR
    rw[VX (show i≠0 by omega),V3]
    unfold vi
    cases Eu b<;>simp
   rw[this]
   cases hb:vi b with
   |true=>simp only[VW,ih (i+1) oM,Wv,hb,V3]
   |false=>simp[hb]
 cases l with
 |nil=>rfl
 |cons b l=>
  simp only[Ee]
  have E:zR 0 b=Eu b:=by unfold zR;cases Eu b<;>simp
  have h4:decide (((b::l).length:Int)<=40)=decide (l.length<=39):=by simp only[Vk];rw[Wa];simp;omega
  rw[E]
  cases hb:Eu b with
  |false=>simp[bZ,hb,dP]
  |true=>
   simp only[VW]
   rw[h2 l 1 oM]
   cases hl:l.all vi with
   |true=>simp[bZ,hb,hl,dP,aO];try omega
   |false=>simp[bZ,hb,hl,dP]
variable {e:ak} {es:List ak} {l:List UInt8}
def Cw (b:UInt8):Bool:= !(decide ((b.toNat:Int)<48)||decide (57<(b.toNat:Int)))
theorem pW (b:UInt8):Cw b=true↔48<=b.toNat/\b.toNat<=57:=by
 unfold Cw
 simp only[Wb,W_,VJ]
 omega
def QI:List UInt8->Bool
 |b::_=>decide ((b.toNat:Int)=48)
 |[]=>false
def dJ (l:List UInt8):Bool:= !decide (l=[])&& !decide (9<(l.length:Int))&&l.all Cw&& !(decide (1<(l.length:Int))&&QI l)
noncomputable def i1 (l:List UInt8):Int:=(eU l).getD 0
theorem vu:∀ (l:List UInt8) (a:Nat),l.all Cw=true->∃ n,Lib.decFrom a l=some n
 |[],a,_=>⟨a,rfl⟩
 |b::l,a,h=>by
  simp only[Wv,Vj] at h
  obtain⟨n,hn⟩:=vu l (a * 10+(b.toNat - 48)) h.2
  refine⟨n, ?_⟩
  unfold Lib.decFrom Lib.digitVal
  rw[Wy ((pW b).1 h.1)]
  exact hn
theorem Hq (h1:l≠[]) (h2:l.length<=18) (E:l.all Cw=true):∃ n:Nat,eU l=some (n:Int):=by
 unfold eU
 rw[Wy h2]
 cases l with
 |nil=>exact absurd rfl h1
 |cons b r=>
  have hb:=(pW b).1 (by simp only[Wv,Vj] at E;exact E.1)
  obtain⟨n,hn⟩:=vu (b::r) 0 E
  refine⟨n, ?_⟩
  have e1:(b==45)=false:=by rw[Xs];rintro rfl;revert hb;decide
  have e2:(b==43)=false:=by rw[Xs];rintro rfl;revert hb;decide
  have e3:Lib.decNat (b::r)=some n:=by unfold Lib.decNat;rw[WU oS];exact hn
  simp only[Lib.atoi,e1,e2,e3]
  rfl
theorem F1 (h1:l≠[]) (h2:l.length<=18) (E:l.all Cw=true):eU l=some (i1 l):=by
 obtain⟨n,hn⟩:=Hq h1 h2 E
 unfold i1
 rw[hn];rfl
theorem A2 (h:dJ l=true):0<=i1 l:=by
 unfold dJ at h
 simp only[Vj,Wb,VJ] at h
 obtain⟨n,hn⟩:=Hq h.1.1.1 oM h.1.2
 unfold i1
 rw[hn];simp
theorem Cy:∀ (l:List UInt8) (a n:Nat),l.all Cw=true->Lib.decFrom a l=some n->n<(a+1) * 10^l.length
 |[],a,n,_,h=>by
  have:a=n:=by simpa[Lib.decFrom] using h
  subst this
  simp
 |b::l,a,n,h,hn=>by
  simp only[Wv,Vj] at h
  unfold Lib.decFrom Lib.digitVal at hn
  rw[Wy ((pW b).1 h.1)] at hn
  have:=Cy l (a * 10+(b.toNat - 48)) n h.2 hn
  have hb:=(pW b).1 h.1
  refine V_ this ?_
  rw[Vk,Nat.pow_succ,Nat.mul_comm (10^l.length) 10,<-Nat.mul_assoc]
  exact W2 _ oM
theorem O9 (h:dJ l=true):i1 l<=999999999:=by
 unfold dJ at h
 simp only[Vj,Wb,VJ] at h
 obtain⟨⟨⟨h1,h2⟩,E⟩, -⟩:=h
 unfold i1 eU
 rw[Wy oM]
 cases l with
 |nil=>exact absurd rfl h1
 |cons b r=>
  have hb:=(pW b).1 (by simp only[Wv,Vj] at E;exact E.1)
  obtain⟨n,hn⟩:=vu (b::r) 0 E
  have h9:=Cy (b::r) 0 n E hn
  have Y:10^(b::r).length<=10^9:=Nat.pow_le_pow_right oD oM
  have e1:(b==45)=false:=by rw[Xs];rintro rfl;revert hb;decide
  have e2:(b==43)=false:=by rw[Xs];rintro rfl;revert hb;decide
  have e3:Lib.decNat (b::r)=some n:=by unfold Lib.decNat;rw[WU oS];exact hn
  simp only[Lib.atoi,e1,e2,e3]
  show((n:Nat):Int)<=999999999
  have:(10:Nat)^9=1000000000:=by decide
  omega
theorem O_ (l:List UInt8) (hl:l.length<=MX):m_ l (UInt8.ofNat (Int.toNat 48)) (UInt8.ofNat (Int.toNat 57))=some (l.all Cw):=by
 have a1:((UInt8.ofNat (Int.toNat 48)).toNat:Int)=48:=by decide
 have a2:((UInt8.ofNat (Int.toNat 57)).toNat:Int)=57:=by decide
 unfold MX at hl
 unfold m_ cQ;dsimp only
 refine(xu l Cw false (fun i e he=> ?_) (by simp only[aB,Vn];rfl)).trans ?_
 ·have hi:=b9 he
  simp only[aX hi,Vo,am,he,Vh,bx,aW i oM,a1,a2]
  unfold Cw
  cases(decide ((e.toNat:Int)<48)||decide (57<(e.toNat:Int)))<;>rfl
 ·cases l.all Cw<;>rfl
theorem QJ (l:List UInt8) (hl:l.length<=MX):o4 l 9=some (if dJ l=true then(i1 l,true) else(0,false)):=by
 have hd:mb l=some (!decide (l=[])&&l.all Cw):=by
  unfold mb bj;dsimp only
  rw[O_ l hl]
  simp only[Vh,aO]
 unfold o4 fr;dsimp only
 rw[hd]
 unfold dJ
 cases l with
 |nil=>rfl
 |cons b r=>
  have L:aV (b::r) 0=some b:=rfl
  simp only[L,Vh,bx,aO,QI,show decide (b::r=[])=false from rfl,VB,V3]
  cases h1:decide (9<((b::r).length:Int)) with
  |true=>rfl
  |false=>
  cases h2:(b::r).all Cw with
  |false=>rfl
  |true=>
  cases E:(decide (1<((b::r).length:Int))&&decide ((b.toNat:Int)=48)) with
  |true=>rfl
  |false=>
   simp only[Vt,Xn,VB,W7,Vn,VW]
   rw[F1 oS (by have:=of_decide_eq_false h1;omega) h2]
   rfl
theorem QK (l:List UInt8) (a:Int) (hl:l.length<=MX):dZ l 9 a=some (if dJ l=true then(i1 l,decide (i1 l<=a)) else(0,false)):=by
 unfold MX at hl
 unfold dZ cc;dsimp only
 unfold dJ
 cases l with
 |nil=>rfl
 |cons b r=>
  have L:aV (b::r) 0=some b:=rfl
  simp only[L,Vh,bx,aO,QI,show decide (b::r=[])=false from rfl,VB,V3,Wm]
  cases h1:decide (9<((b::r).length:Int)) with
  |true=>rfl
  |false=>
  cases E:(decide (1<((b::r).length:Int))&&decide ((b.toNat:Int)=48)) with
  |true=>simp
  |false=>
   simp only[Xn,Vn]
   refine(xu (b::r) Cw (0,false) (fun i e he=> ?_) (by simp only[aB,Vn];rfl)).trans ?_
   ·have hi:=b9 he
    simp only[aX hi,Vo,am,he,Vh,bx,aW i oM]
    unfold Cw
    cases(decide ((e.toNat:Int)<48)||decide (57<(e.toNat:Int)))<;>rfl
   ·cases h2:(b::r).all Cw with
    |false=>rfl
    |true=>
     simp only[VW]
     rw[F1 oS (by have:=of_decide_eq_false h1;omega) h2]
     rfl
def dt (e:ak):Bool:=match e.fRepeats with|[[_]]=>true|_=>false
def firstT (e:ak):List UInt8:=match e.fRepeats with|(t::_)::_=>t|_=>[]
def vw (es:List ak):Prop:=es.length<=50/\∀ e∈es,mD e=0
theorem K9 {t:List UInt8} (h:qP t=0):t.length<=1000:=by
 unfold qP at h
 split at h
 ·cases h
 ·omega
theorem Cz (h:mD e=0):∃ t ts rs,e.fRepeats=(t::ts)::rs/\t.length<=1000:=by
 unfold mD at h
 split at h
 ·cases h
 ·split at h
  ·cases h
  ·cases D:e.fRepeats with
   |nil=>rename_i h1 _;rw[D] at h1;exact absurd rfl h1
   |cons r rs=>
    rw[D] at h
    have h1:=hw h r oS
    unfold yM at h1
    split at h1
    ·cases h1
    ·split at h1
     ·cases h1
     ·cases r with
      |nil=>rename_i h2 _;exact absurd rfl h2
      |cons t ts=>exact⟨t,ts,rs,rfl,K9 (hw h1 t oS)⟩
theorem pA (h:vw es):∀ t∈es.map firstT,t.length<=MX:=by
 intro t ht
 obtain⟨e,he,rfl⟩:=VT.1 ht
 obtain⟨u,X,rs,D,hl⟩:=Cz (h.2 e he)
 unfold firstT MX
 rw[D];simp only;omega
theorem zV (h:mD e=0):∃ r,aV e.fRepeats 0=some r/\aV r 0=some (firstT e)/\(decide ((e.fRepeats.length:Int)=1)&&decide ((r.length:Int)=1))=dt e:=by
 obtain⟨t,ts,rs,D, -⟩:=Cz h
 refine⟨t::ts,by rw[D];rfl,by unfold firstT;rw[D];rfl, ?_⟩
 unfold dt
 rw[D]
 cases rs<;>cases ts<;>simp<;>omega
noncomputable def Rd (es:List ak):List (List UInt8)×Bool:=if es.all dt=true then(es.map firstT,true) else([],false)
theorem yR (tag:List UInt8) (h:vw es):mq ⟨tag,es⟩=some (Rd es):=by
 unfold mq bj;dsimp only
 unfold Rd
 have key:=pZ (X:=Nat) (k:=bZ fun s=>some (s.1,true)) (c:=some (if es.all dt=true then(es.map firstT,true) else([],false)))
  (f:=fun s:List (List UInt8)×Int=>bif decide (s.2<(es.length:Int)) then(aV es s.2).bind fun e=>(IU (!decide ((e.fRepeats.length:Int)=1)) ((aV e.fRepeats 0).bind fun e=>some !decide ((e.length:Int)=1))).bind fun v=>
   bif v then gr (gr (some ([],false))) else(aV e.fRepeats 0).bind fun e=>(aV e 0).bind fun e=>ew (gq (s.1.length+[e].length)) (some (.inl (s.1++[e],IntKind.i64.wrap (s.2+1)))) else gr (some (.inl (s.1,s.2))))
  (fun i=>((es.take i).map firstT,(i:Int))) (fun i=>es.length - i) (fun i=>i<=es.length/\(es.take i).all dt=true) (by
  rintro i ⟨hi,hs⟩
  rcases VR i es.length with h1|h1
  ·obtain⟨e,he⟩:=dl h1
   have Z:=h.2 e (Vq he)
   obtain⟨r,r1,r2,r3⟩:=zV Z
   have hl:gq (((es.take i).map firstT).length+[firstT e].length)=some ():=by
    unfold gq
    have:=h.1
    rw[Wy (by simp only[Wj,VA,Vk,Vp];omega)]
   have hd:(!decide ((e.fRepeats.length:Int)=1)|| !decide ((r.length:Int)=1))= !dt e:=by rw[<-r3,Bool.not_and]
   cases b:dt e with
   |true=>
    refine .inl ⟨i+1,⟨h1,by rw[je he,Xu,hs];simp[b]⟩,by omega, ?_⟩
    simp only[aX h1,Vo,am,he,Vh,r1,bx,hd,b,Vt,Vn,r2,ew,hl,aW i (by have:=h.1;omega)]
    rw[je he,Wq];rfl
   |false=>
    refine .inr ⟨.inr ([],false), ?_, ?_⟩
    ·simp only[aX h1,Vo,am,he,Vh,r1,bx,hd,b,VB,Vo]
     rfl
    ·have:es.all dt=false:=by
      rw[List.all_eq_false]
      exact⟨e,Vq he,by simp[b]⟩
     rw[this];rfl
  ·have:i=es.length:=by omega
   subst this
   refine .inr ⟨.inl (es.map firstT,(es.length:Int)), ?_, ?_⟩
   ·simp only[aB,Vn,WF];rfl
   ·rw[WF] at hs
    rw[hs];rfl) 0 ⟨V0 _,rfl⟩
 exact key
theorem Cc (tag:List UInt8) (h:vw es):dM ⟨tag,es⟩=some (es.map firstT,es.all dt):=by
 unfold dM cc;dsimp only
 have key:=pZ (X:=Nat) (k:=bZ fun s:List (List UInt8)×Bool×Int=>some (s.1,s.2.1)) (c:=some (es.map firstT,es.all dt))
  (f:=fun s:List (List UInt8)×Bool×Int=>bif decide (s.2.2<(es.length:Int)) then(aV es s.2.2).bind fun e=>(lD s.2.1 (some (decide ((e.fRepeats.length:Int)=1)))).bind fun v=>(lD v ((aV e.fRepeats 0).bind fun e=>some (decide ((e.length:Int)=1)))).bind fun v=>
   (aV e.fRepeats 0).bind fun e=>(aV e 0).bind fun e=>ew (gq (s.1.length+[e].length)) (some (.inl (s.1++[e],v,IntKind.i64.wrap (s.2.2+1)))) else gr (some (.inl (s.1,s.2.1,s.2.2))))
  (fun i=>((es.take i).map firstT,(es.take i).all dt,(i:Int))) (fun i=>es.length - i) (fun i=>i<=es.length) (by
  rintro i hi
  rcases VR i es.length with h1|h1
  ·obtain⟨e,he⟩:=dl h1
   have Z:=h.2 e (Vq he)
   obtain⟨r,r1,r2,r3⟩:=zV Z
   have hl:gq (((es.take i).map firstT).length+[firstT e].length)=some ():=by
    unfold gq
    have:=h.1
    rw[Wy (by simp only[Wj,VA,Vk,Vp];omega)]
   refine .inl ⟨i+1,h1,by omega, ?_⟩
   simp only[aX h1,Vo,am,he,Vh,r1,aO,r2,ew,hl,aW i (by have:=h.1;omega),Bool.and_assoc,r3]
   rw[je he,Wq,Xu]
   simp
  ·have:i=es.length:=by omega
   subst this
   refine .inr ⟨.inl (es.map firstT,es.all dt,(es.length:Int)), ?_,rfl⟩
   simp only[aB,Vn,WF];rfl) 0 (V0 _)
 exact key
def kZ (es:List ak):List UInt8:=match es with|[]=>[]|e::_=>firstT e
def Hr (es:List ak):Bool:=match es with|[]=>false|e::_=>dt e&&eV (firstT e)
theorem Pa (s:aa) (h:vw s.fElements):uQ s=some (kZ s.fElements):=by
 unfold uQ fr;dsimp only
 unfold x3 bj;dsimp only
 have w0:IntKind.i64.wrap ((1:Int) - 1)=0:=by rw[bk _ oM oM];omega
 cases hs:s.fElements with
 |nil=>rfl
 |cons e es=>
  rw[hs] at h
  obtain⟨t,ts,rs,D, -⟩:=Cz (h.2 e oS)
  have H:decide (((e::es).length:Int)<1)=false:=by simp only[Vk,VJ];omega
  have d2:decide ((((t::ts)::rs).length:Int)<1)=false:=by simp only[Vk,VJ];omega
  have q:decide (((t::ts).length:Int)<1)=false:=by simp only[Vk,VJ];omega
  have g1:aV (e::es) 0=some e:=rfl
  have g2:aV ((t::ts)::rs) 0=some (t::ts):=rfl
  have g3:aV (t::ts) 0=some t:=rfl
  simp only[H,Vn,w0,g1,Vh,D,d2,g2,q,bx,Xn,g3]
  have:firstT e=t:=by unfold firstT;rw[D]
  show some t=some (firstT e)
  rw[this]
theorem Te (s:aa) (h:vw s.fElements):tp s=some (Hr s.fElements):=by
 unfold tp fr;dsimp only
 cases hs:s.fElements with
 |nil=>rfl
 |cons e es=>
  rw[hs] at h
  have H:decide (((e::es).length:Int)=0)=false:=by simp only[Vk,VJ];omega
  have g1:b5 (e::es) ((none:Option Int).getD 0) ((some 1).getD ((e::es).length:Int))=some [e]:=by
   unfold b5
   rw[Wy ⟨by simp,by simp,by simp only[Wi,Vk];omega⟩]
   rfl
  have ho:vw [e]:=⟨by simp,fun x hx=>by rw[V1.1 hx];exact h.2 e oS⟩
  rw[H]
  simp only[Vn,g1,Vh]
  rw[yR [] ho]
  have I:=pA ho (firstT e) oS
  unfold Rd Hr
  simp only[Wv,List.all_nil,Xb]
  cases b:dt e with
  |false=>rfl
  |true=>
   have g2:aV ([e].map firstT) 0=some (firstT e):=rfl
   simp only[VW,Vh,g2,uj _ I,aO,V3]
variable {l:List UInt8}
theorem uk (b:UInt8):∀ (l:List UInt8) (a:Nat),Lib.decFrom a (l++[b])=(Lib.decFrom a l).bind fun n=>(Lib.digitVal b).map fun d=>n * 10+d
 |[],a=>by
  show Lib.decFrom a [b]=_
  unfold Lib.decFrom
  cases Lib.digitVal b<;>rfl
 |x::l,a=>by
  show Lib.decFrom a (x::(l++[b]))=_
  unfold Lib.decFrom
  cases Lib.digitVal x with
  |none=>rfl
  |some d=>exact uk b l _
theorem O1 {b:UInt8} (h:Cw b=true):Lib.digitVal b=some (b.toNat - 48):=by
 unfold Lib.digitVal
 rw[Wy ((pW b).1 h)]
theorem Hi (h1:l≠[]) (h2:l.length<=18) (E:l.all Cw=true):eU l=Option.map (fun n:Nat=>(n:Int)) (Lib.decFrom 0 l):=by
 unfold eU
 rw[Wy h2]
 cases l with
 |nil=>exact absurd rfl h1
 |cons b r=>
  have hb:=(pW b).1 (by simp only[Wv,Vj] at E;exact E.1)
  have e1:(b==45)=false:=by rw[Xs];rintro rfl;revert hb;decide
  have e2:(b==43)=false:=by rw[Xs];rintro rfl;revert hb;decide
  have e3:Lib.decNat (b::r)=Lib.decFrom 0 (b::r):=by unfold Lib.decNat;rw[WU oS]
  simp only[Lib.atoi,e1,e2,e3]
  rfl
theorem O2 {α:Type} {l:List α} (h:l≠[]):∃ p a,l=p++[a]:=by
 rcases WW l with h1|⟨p,a,h1⟩
 ·exact absurd h1 h
 ·exact⟨p,a,by rw[h1,WX]⟩
theorem J9 {m:List UInt8} (h:l≠[]):QI (l++m)=QI l:=by
 cases l with
 |nil=>exact absurd rfl h
 |cons b l=>rfl
theorem Hj (d:Nat) (h:d<10):Cw (UInt8.ofNat (48+d))=true/\(UInt8.ofNat (48+d)).toNat=48+d:=by
 have h2:(UInt8.ofNat (48+d)).toNat=48+d:=by simp;omega
 exact⟨(pW _).2 oM,h2⟩
structure DD (u:Nat) (l:List UInt8):Prop where
 val:Lib.decFrom 0 l=some u
 dig:l.all Cw=true
 ne:l≠[]
 lead:1<=u->QI l=false
 zero:u=0->l.length=1
theorem Ta (u:Nat):DD u (Lib.decDigits u):=by
 induction u using Nat.strongRecOn with
 |_ u ih=>
  by_cases h:u<10
  ·obtain⟨h1,h2⟩:=Hj u h
   rw[Lib.decDigits,dif_pos h]
   refine⟨?_,by rw[Wv,h1];rfl,by simp,fun h0=> ?_,fun _=>rfl⟩
   ·unfold Lib.decFrom
    rw[O1 h1,h2]
    show Lib.decFrom _ []=_
    unfold Lib.decFrom
    congr 1;omega
   ·show decide (((UInt8.ofNat (48+u)).toNat:Int)=48)=false
    rw[h2];exact VY oM
  ·obtain⟨k1,k2,k3,k4,k5⟩:=ih (u/10) oM
   obtain⟨h1,h2⟩:=Hj (u%10) (Nat.mod_lt _ oD)
   rw[Lib.decDigits,dif_neg h]
   refine⟨?_,by rw[Xu,k2,Wv,h1];rfl,by simp,fun _=> ?_,fun h0=>by omega⟩
   ·rw[uk,k1,O1 h1,h2]
    simp only[Vh,WJ]
    congr 1;omega
   ·rw[J9 k3];exact k4 oM
theorem yP:∀ (k:Nat) (l:List UInt8) (n:Nat),l.length=k+1->l.all Cw=true->(1<l.length->QI l=false)->Lib.decFrom 0 l=some n->Lib.decDigits n=l
 |0,l,n,hl,hd,_,hv=>by
  match l,hl with
  |[b],_=>
   have hb:Cw b=true:=by simpa using hd
   have hi:=(pW b).1 hb
   unfold Lib.decFrom at hv
   rw[O1 hb] at hv
   have hv:Lib.decFrom (0 * 10+(b.toNat - 48)) []=some n:=hv
   unfold Lib.decFrom at hv
   cases hv
   rw[Lib.decDigits,dif_pos oM]
   congr 1
   apply W4.1
   simp;omega
 |k+1,l,n,hl,hd,hh,hv=>by
  obtain⟨l',b,rfl⟩:=O2 (l:=l) (by rintro rfl;simp at hl)
  have f:l'.length=k+1:=by simpa using hl
  have U:l'≠[]:=by rintro rfl;simp at f
  simp only[Xu,Wv,List.all_nil,Xb,Vj] at hd
  have h8:QI l'=false:=by rw[<-J9 (m:=[b]) U];exact hh (by rw[hl];omega)
  obtain⟨n',A⟩:=vu l' 0 hd.1
  have ih:=yP k l' n' f hd.1 (fun _=>h8) A
  have hi:=(pW b).1 hd.2
  rw[uk,A,O1 hd.2] at hv
  simp only[Vh,WJ,Vi] at hv
  have h1:1<=n':=by
   rcases Xg n' with rfl|h
   ·rw[<-ih,Lib.decDigits,dif_pos oD] at h8
    exact absurd h8 oD
   ·exact h
  rw[Lib.decDigits,dif_neg oM,show n/10=n' by omega,ih]
  congr 1
  congr 1
  apply W4.1
  simp;omega
theorem xN:∀ (k u:Nat),u<10^(k+1)->(Lib.decDigits u).length<=k+1
 |0,u,h=>by
  rw[Lib.decDigits,dif_pos (by simpa using h)];simp
 |k+1,u,h=>by
  by_cases t:u<10
  ·rw[Lib.decDigits,dif_pos t];simp
  ·rw[Lib.decDigits,dif_neg t,Vl]
   have:=xN k (u/10) (by rw[Nat.pow_succ] at h;omega)
   simp;omega
theorem Hk {t:Int} (h0:0<=t) (h1:t<=999999999):dJ (Lib.itoa t)=true/\i1 (Lib.itoa t)=t/\∀ b∈Lib.itoa t,Cw b=true:=by
 obtain⟨u,rfl⟩:∃ u:Nat,t=(u:Int):=⟨t.toNat,by omega⟩
 rw[Lib.itoa_nonneg]
 obtain⟨k1,k2,k3,k4,k5⟩:=Ta u
 have hl:=xN 8 u (by
                  have:(10:Nat)^(8+1)=1000000000:=by decide
                  omega)
 refine⟨?_, ?_,fun b hb=>VN.1 k2 b hb⟩
 ·unfold dJ
  rw[VY k3,VY oM,k2]
  rcases Xg u with hu|hu
  ·rw[VY (by have:=k5 hu;omega)];rfl
  ·rw[k4 hu];simp
 ·unfold i1
  rw[Hi k3 oM k2,k1];rfl
theorem Cs {a:List UInt8} (h:dJ a=true):Lib.itoa (i1 a)=a:=by
 have h':=h
 unfold dJ at h
 simp only[Vj,Wb,VJ] at h
 obtain⟨⟨⟨h1,h2⟩,E⟩,h4⟩:=h
 obtain⟨n,hn⟩:=vu a 0 E
 have hv:i1 a=(n:Int):=by unfold i1;rw[Hi h1 oM E,hn];rfl
 rw[hv,Lib.itoa_nonneg]
 refine yP (a.length - 1) a n (by
                       have:a.length≠0:=fun e=>h1 (Vx.1 e)
                       omega) E (fun hl=> ?_) hn
 simp only[Bool.and_eq_false_iff,VJ] at h4
 rcases h4 with h4|h4
 ·omega
 ·exact h4
noncomputable section
variable {l:List UInt8}
theorem Ke (m:Option Bool):IU true m=some true:=rfl
theorem Hs (m:Option Bool):IU false m=m:=rfl
theorem F3 (m:Option Bool):lD true m=m:=rfl
theorem CB (m:Option Bool):lD false m=some false:=rfl
def i2:List UInt8:=[73,72,68]
def pB:List UInt8:=[71,72,68]
def oh:List UInt8:=[77,72,68]
def BG:List UInt8:=[73,84,82]
def Ex:List UInt8:=[71,84,82]
def Ey:List UInt8:=[77,84,82]
def E1 (l:List UInt8):Bool:=dJ l&&decide (1<=i1 l)&&decide (i1 l<=3652059)
def E2 (l:List UInt8):Bool:=dJ l&&decide (i1 l<=86399)
def K_:List (List UInt8)->Bool
 |[a,b]=>eV a&&dP b
 |_=>false
def La:List (List UInt8)->Bool
 |[a,b,c]=>eV a&&dP b&&dP c
 |_=>false
def Lb:List (List UInt8)->Bool
 |[a,b,c,d,e,f]=>eV a&&dP b&&dP c&&E1 d&&E2 e&&(decide (f=[])||decide (f=[49]))
 |_=>false
def IP (s:aa):Bool:=s.fElements.all dt&&(if s.fTag=pB then K_ (s.fElements.map firstT) else if s.fTag=oh then La (s.fElements.map firstT) else Lb (s.fElements.map firstT))
theorem MA (n lo hi:Int):ng n lo hi=some (decide (n<lo)||decide (hi<n)):=by
 unfold ng bj;dsimp only
 simp only[bx,Vh]
theorem Rh (n:Int):qN n=some (decide (1<=n)&&decide (n<=3652059)):=by
 unfold qN fr;dsimp only
 rw[MA]
 simp only[Vh]
 congr 1
 rw[Wa];simp
theorem MB (hl:l.length<=MX):∃ n,o4 l 9=some (n,dJ l)/\(dJ l=true->n=i1 l):=by
 rw[QJ l hl]
 cases h:dJ l with
 |true=>exact⟨_,by simp,fun _=>rfl⟩
 |false=>exact⟨0,by simp,fun h=>by cases h⟩
theorem MC (a:Int) (hl:l.length<=MX):∃ n,dZ l 9 a=some (n,dJ l&&decide (i1 l<=a))/\(dJ l=true->n=i1 l):=by
 rw[QK l a hl]
 cases h:dJ l with
 |true=>exact⟨_,by simp,fun _=>rfl⟩
 |false=>exact⟨0,by simp,fun h=>by cases h⟩
theorem Pc (s:aa) (h:vw s.fElements):tq s=some (IP s):=by
 obtain⟨tag,es⟩:=s
 have hl:=pA h
 have ht:=yR tag h
 unfold tq wy;dsimp only
 simp only at h hl ht
 rw[ht]
 unfold IP Rd
 simp only
 cases hs:es.all dt with
 |false=>rfl
 |true=>
  simp only[VW,Vh,Vt,Hs,V3]
  generalize es.map firstT=ts at hl
  cases ts with
  |nil=>
   simp only[Ke,Vh,show decide ((([]:List (List UInt8)).length:Int)=0)=true from rfl,Vo,K_,La,Lb]
   split
   ·rfl
   ·split<;>rfl
  |cons a ts=>
   have H:decide (((a::ts).length:Int)=0)=false:=by simp only[Vk,VJ];omega
   have g0:aV (a::ts) 0=some a:=rfl
   have j:=uj a (hl a oS)
   simp only[H,Hs,Vh,g0,j]
   cases i:eV a with
   |false=>
    simp only[VB,Vo]
    cases ts with
    |nil=>simp only[K_,La,Lb,ite_self]
    |cons b ts=>
     cases ts with
     |nil=>simp[K_,La,Lb,i]
     |cons c ts=>
      cases ts with
      |nil=>simp[K_,La,Lb,i]
      |cons d ts=>
       cases ts with
       |nil=>simp[K_,La,Lb]
       |cons e ts=>
        cases ts with
        |nil=>simp[K_,La,Lb]
        |cons f ts=>cases ts<;>simp[K_,La,Lb,i]
   |true=>
    simp only[Vt,Vn]
    by_cases hG:tag=pB
    ·have e1:decide (tag=[71,72,68])=true:=VX hG
     rw[Wy hG];simp only[e1,Vo]
     match ts with
     |[]=>rfl
     |[b]=>
      have g1:aV [a,b] 1=some b:=rfl
      have d2:decide ((([a,b]:List (List UInt8)).length:Int)=2)=true:=rfl
      simp only[d2,F3,g1,Vh,tz b (hl b oS),K_,i,V3]
     |b::c::ts=>
      have d2:decide (((a::b::c::ts).length:Int)=2)=false:=by simp only[Vk,VJ];omega
      simp only[d2,CB,Vh,K_]
    ·have e1:decide (tag=[71,72,68])=false:=VY hG
     simp only[e1,Vn,hG,VQ]
     by_cases hM:tag=oh
     ·have e2:decide (tag=[77,72,68])=true:=VX hM
      rw[Wy hM];simp only[e2,Vo]
      match ts with
      |[]=>rfl
      |[b]=>rfl
      |[b,c]=>
       have g1:aV [a,b,c] 1=some b:=rfl
       have g2:aV [a,b,c] 2=some c:=rfl
       have d2:decide ((([a,b,c]:List (List UInt8)).length:Int)=3)=true:=rfl
       simp only[d2,g1,g2,Vh,tz b (hl b oS),tz c (hl c oS),aO,La,i,V3]
      |b::c::d::ts=>
       have d2:decide (((a::b::c::d::ts).length:Int)=3)=false:=by simp only[Vk,VJ];omega
       simp only[d2,CB,Vh,La]
     ·have e2:decide (tag=[77,72,68])=false:=VY hM
      simp only[e2,Vn,hM,VQ]
      match ts with
      |[]=>rfl
      |[b]=>rfl
      |[b,c]=>rfl
      |[b,c,d]=>rfl
      |[b,c,d,e]=>rfl
      |[b,c,d,e,f]=>
       have g1:aV [a,b,c,d,e,f] 1=some b:=rfl
       have g2:aV [a,b,c,d,e,f] 2=some c:=rfl
       have g3:aV [a,b,c,d,e,f] 3=some d:=rfl
       have g4:aV [a,b,c,d,e,f] 4=some e:=rfl
       have g5:aV [a,b,c,d,e,f] 5=some f:=rfl
       have d2:decide ((([a,b,c,d,e,f]:List (List UInt8)).length:Int)=6)=true:=rfl
       obtain⟨o,k1,k2⟩:=MB (hl d oS)
       obtain⟨V,k3,k4⟩:=MB (hl e oS)
       simp only[d2,Vt,g1,g2,g3,g4,g5,Vh,tz b (hl b oS),tz c (hl c oS),bx,aO,k1,k3,Rh,MA,Lb,i,V3]
       unfold E1 E2
       cases dP b<;>cases dP c<;>cases h1:decide (f=[])<;>cases h2:decide (f=[49])<;>simp
       all_goals
        cases E:dJ d<;>cases h4:dJ e<;>simp
        have:=A2 h4
        rw[k2 E,k4 h4]
        rw[Wa];simp;omega
      |b::c::d::e::f::g::ts=>
       have d2:decide (((a::b::c::d::e::f::g::ts).length:Int)=6)=false:=by simp only[Vk,VJ];omega
       simp only[d2,VB,Ke,Vh,Vo,Lb]
theorem yT (hl:l.length<=MX):ex l=some (eV l):=pc l hl
theorem Ri (s:aa) (h:vw s.fElements) (hT:s.fTag=i2\/s.fTag=pB\/s.fTag=oh):iN s=some (IP s):=by
 obtain⟨tag,es⟩:=s
 have hl:=pA h
 have ht:=Cc tag h
 unfold iN ld;dsimp only
 simp only at h hl ht hT
 rw[ht]
 unfold IP
 simp only[Vh]
 generalize es.map firstT=ts at hl
 rcases hT with rfl|rfl|rfl
 ·have e1:decide (i2=[73,72,68])=true:=rfl
  rw[WU oD,WU oD]
  simp only[e1,Vo]
  cases hs:es.all dt with
  |false=>rfl
  |true=>
   simp only[Vt,Hs,Vh,V3]
   match ts with
   |[]=>rfl
   |[a]=>rfl
   |[a,b]=>rfl
   |[a,b,c]=>rfl
   |[a,b,c,d]=>rfl
   |[a,b,c,d,e]=>rfl
   |[a,b,c,d,e,f]=>
    have g0:aV [a,b,c,d,e,f] 0=some a:=rfl
    have g1:aV [a,b,c,d,e,f] 1=some b:=rfl
    have g2:aV [a,b,c,d,e,f] 2=some c:=rfl
    have g3:aV [a,b,c,d,e,f] 3=some d:=rfl
    have g4:aV [a,b,c,d,e,f] 4=some e:=rfl
    have g5:aV [a,b,c,d,e,f] 5=some f:=rfl
    have d2:decide ((([a,b,c,d,e,f]:List (List UInt8)).length:Int)=6)=true:=rfl
    obtain⟨o,k1,k2⟩:=MC 3652059 (hl d oS)
    obtain⟨V,k3,k4⟩:=MC 86399 (hl e oS)
    simp only[d2,Vt,Vn,g0,g1,g2,g3,g4,g5,Vh,yT (hl a oS),tA b (hl b oS),tA c (hl c oS),bx,aO,k1,k3,Lb]
    unfold E1 E2
    cases E:dJ d with
    |false=>simp
    |true=>
     rw[k2 E]
     cases eV a<;>cases dP b<;>cases dP c<;>cases dJ e<;>cases decide (1<=i1 d)<;>cases decide (i1 d<=3652059)<;>cases decide (i1 e<=86399)<;>rfl
   |a::b::c::d::e::f::g::ts=>
    have d2:decide (((a::b::c::d::e::f::g::ts).length:Int)=6)=false:=by simp only[Vk,VJ];omega
    simp only[d2,VB,Vo,Lb]
 ·have e1:decide (pB=[73,72,68])=false:=rfl
  have e2:decide (pB=[71,72,68])=true:=rfl
  rw[Wy rfl]
  simp only[e1,e2,Vo,Vn]
  cases hs:es.all dt with
  |false=>rfl
  |true=>
   simp only[F3,Vh,V3]
   match ts with
   |[]=>rfl
   |[a]=>rfl
   |[a,b]=>
    have g0:aV [a,b] 0=some a:=rfl
    have g1:aV [a,b] 1=some b:=rfl
    have d2:decide ((([a,b]:List (List UInt8)).length:Int)=2)=true:=rfl
    simp only[d2,g0,g1,Vh,yT (hl a oS),tA b (hl b oS),aO,K_,V3]
   |a::b::c::ts=>
    have d2:decide (((a::b::c::ts).length:Int)=2)=false:=by simp only[Vk,VJ];omega
    simp only[d2,CB,Vh,K_]
 ·have e1:decide (oh=[73,72,68])=false:=rfl
  have e2:decide (oh=[71,72,68])=false:=rfl
  rw[WU oD,Wy rfl]
  simp only[e1,e2,Vn]
  cases hs:es.all dt with
  |false=>rfl
  |true=>
   simp only[F3,Vh,V3]
   match ts with
   |[]=>rfl
   |[a]=>rfl
   |[a,b]=>rfl
   |[a,b,c]=>
    have g0:aV [a,b,c] 0=some a:=rfl
    have g1:aV [a,b,c] 1=some b:=rfl
    have g2:aV [a,b,c] 2=some c:=rfl
    have d2:decide ((([a,b,c]:List (List UInt8)).length:Int)=3)=true:=rfl
    simp only[d2,g0,g1,g2,Vh,yT (hl a oS),tA b (hl b oS),tA c (hl c oS),aO,La,V3]
   |a::b::c::d::ts=>
    have d2:decide (((a::b::c::d::ts).length:Int)=3)=false:=by simp only[Vk,VJ];omega
    simp only[d2,CB,Vh,La]
end
abbrev RA:=ao
abbrev RO:=aZ
abbrev Nt:=ah
def dK (tag:List UInt8):Nat:=if tag=i2\/tag=BG then 1 else if tag=pB\/tag=Ex then 2 else if tag=oh\/tag=Ey then 3 else 0
def gE (tag:List UInt8):Bool:=decide (tag=i2)||decide (tag=pB)||decide (tag=oh)
theorem MD (tag:List UInt8):jJ tag=some (gE tag):=by
 unfold jJ cc;dsimp only
 simp only[bx,Vh];rfl
theorem F4 (tag:List UInt8):gn tag=some (dK tag:Int):=by
 unfold gn cc;dsimp only
 unfold dK i2 pB oh BG Ex Ey
 by_cases h1:tag=[73,72,68]
 ·subst h1;rfl
 by_cases h2:tag=[73,84,82]
 ·subst h2;rfl
 by_cases E:tag=[71,72,68]
 ·subst E;rfl
 by_cases h4:tag=[71,84,82]
 ·subst h4;rfl
 by_cases h5:tag=[77,72,68]
 ·subst h5;rfl
 by_cases h6:tag=[77,84,82]
 ·subst h6;rfl
 simp[h1,h2,E,h4,h5,h6]
theorem Rj (tag:List UInt8):dD tag=some (decide (0<dK tag)):=by
 unfold dD ld;dsimp only
 rw[F4]
 simp
def mR (a:RA) (k i:Int):RA:=⟨a.flevels,a.fnotes++[⟨k,i⟩]⟩
theorem vx (a:RA) (k i:Int) (h:a.fnotes.length<=100000):bD a k i=some ((),mR a k i):=by
 unfold bD wE;dsimp only
 unfold gq ew
 rw[Wy (by simp only[Vk,Vp];omega)]
 rfl
def a8 (c:Nat) (i:Int) (a:RA):RA:=⟨a.flevels.take c,a.fnotes++List.replicate (a.flevels.length - c) ⟨2,i⟩⟩
theorem yU {α:Type} (n:Nat) (x:α):List.replicate n x++[x]=List.replicate (n+1) x:=by
 rw[List.replicate_succ']
theorem F5 (a:RA) (c:Nat) (i:Int) (h:a.fnotes.length<=50000) (hl:a.flevels.length<=3):di a (c:Int) i=some ((),a8 c i a):=by
 unfold di wF;dsimp only
 rw[show(a.flevels,a.fnotes)=((fun d:Nat=>(a.flevels.take (a.flevels.length - d),a.fnotes++List.replicate d (⟨2,i⟩:Nt))) 0) by simp]
 refine pZ (X:=Nat) (fun d:Nat=>(a.flevels.take (a.flevels.length - d),a.fnotes++List.replicate d (⟨2,i⟩:Nt))) (fun d=>a.flevels.length - d) (fun d=>d<=a.flevels.length - c) ?_ 0 (V0 _)
 ·intro d hd
  have I:(a.flevels.take (a.flevels.length - d)).length=a.flevels.length - d:=by rw[VA];omega
  rcases VR d (a.flevels.length - c) with h1|h1
  ·refine .inl ⟨d+1,h1,by omega, ?_⟩
   have H:decide ((c:Int)<((a.flevels.take (a.flevels.length - d)).length:Int))=true:=VX (by rw[I];omega)
   have hn:=vx ⟨a.flevels.take (a.flevels.length - d),a.fnotes++List.replicate d ⟨2,i⟩⟩ 2 i (by simp only[Vl,VE];omega)
   have w:IntKind.i64.wrap (((a.flevels.take (a.flevels.length - d)).length:Int) - 1)=((a.flevels.length - (d+1):Nat):Int):=by rw[I,bk _ oM oM];omega
   dsimp only
   rw[H,hn]
   simp only[Vo,Vh,mR,w]
   rw[n5 _ _ (by rw[I];omega),List.take_take,WV oM,Vy,yU]
   rfl
  ·have m:d=a.flevels.length - c:=by omega
   have H:decide ((c:Int)<((a.flevels.take (a.flevels.length - d)).length:Int))=false:=VY (by rw[I];omega)
   refine .inr ⟨.inl (a.flevels.take (a.flevels.length - d),a.fnotes++List.replicate d ⟨2,i⟩), ?_, ?_⟩
   ·dsimp only
    rw[H];rfl
   ·unfold a8 bZ
    rw[m]
    have:a.flevels.take (a.flevels.length - (a.flevels.length - c))=a.flevels.take c:=by
     rcases VR c a.flevels.length with h2|h2
     ·rw[show a.flevels.length - (a.flevels.length - c)=c by omega]
     ·rw[VO h2,VO oM]
    rw[this]
def tb (ref:List UInt8) (x:RO):RO:=⟨x.fheaded,x.fref,x.fmany+1,if eV ref=true then x.frefs++[ref] else x.frefs⟩
def CC (ref:List UInt8) (x:RO) (i:Int):List Nt:=if eV ref=true/\ref∈x.frefs then[⟨5,i⟩] else[]
theorem Lc (N:List Nt) (i:Int) (ref:List UInt8):aR ⟨[],N⟩ i ref=some ((),⟨[],N⟩):=by
 unfold aR sX;dsimp only
 rfl
theorem ME (L:List RO) (x:RO) (N:List Nt) (i:Int) (ref:List UInt8) (h1:ref.length<=MX) (h2:L.length<=3) (E:N.length<=100000) (h4:x.frefs.length<=100000) (h5:0<=x.fmany/\x.fmany<=100000):
  aR ⟨L++[x],N⟩ i ref=some ((),⟨L++[tb ref x],N++CC ref x i⟩):=by
 unfold aR sX;dsimp only
 obtain⟨g1,g2⟩:=jf L x oM
 have H:decide (((L++[x]).length:Int)=0)=false:=by simp only[Vl,Vk,Vp,VJ];omega
 have w:IntKind.i64.wrap (x.fmany+1)=x.fmany+1:=bk _ oM oM
 simp only[H,Vn,g1,g2,Vh,yT h1,w]
 have I:∀ y:RO,(L++[x]).set L.length y=L++[y]:=fun y=>by simp
 simp only[I]
 cases D:eV ref with
 |false=>simp[tb,CC,D]
 |true=>
  simp only[Vo]
  have t:gq (x.frefs.length+[ref].length)=some ():=by unfold gq;rw[Wy (by simp only[Vk,Vp];omega)]
  have M:gq (N.length+[(⟨5,i⟩:Nt)].length)=some ():=by unfold gq;rw[Wy (by simp only[Vk,Vp];omega)]
  simp only[t]
  refine(pZ (X:=Nat) (fun j=>(N,x.fheaded,x.fref,x.fmany+1,(j:Int))) (fun j=>x.frefs.length - j) (fun j=>j<=x.frefs.length/\ref∉x.frefs.take j) ?_ 0 ⟨V0 _,by simp⟩)
  rintro j ⟨hj,Z⟩
  rcases VR j x.frefs.length with h6|h6
  ·obtain⟨e,he⟩:=dl h6
   dsimp only
   simp only[aX h6,Vo,am,he,Vh,Ww,ew,aW j oM,M]
   by_cases hq:e=ref
   ·refine .inr ⟨.inl (N++[⟨5,i⟩],x.fheaded,x.fref,x.fmany+1,(j:Int)), ?_, ?_⟩
    ·rw[VX hq];rfl
    ·have:ref∈x.frefs:=hq▸Vq he
     simp[bZ,tb,CC,D,this]
   ·refine .inl ⟨j+1,⟨h6, ?_⟩,by omega, ?_⟩
    ·rw[je he,VM]
     rintro(h|h)
     ·exact Z h
     ·exact hq (V1.1 h).symm
    ·rw[VY hq];rfl
  ·have:j=x.frefs.length:=by omega
   subst this
   rw[WF] at Z
   refine .inr ⟨.inl (N,x.fheaded,x.fref,x.fmany+1,((x.frefs.length:Nat):Int)), ?_, ?_⟩
   ·dsimp only
    rw[aB];rfl
   ·simp[bZ,tb,CC,D,Z,ew]
structure x_ (n:Nat) (a:RA):Prop where
 lv:a.flevels.length<=3
 nt:a.fnotes.length<=10 * n
 ma:∀ x∈a.flevels,0<=x.fmany/\x.fmany<=(n:Int)+1/\x.frefs.length<=n
noncomputable def I1 (ts:List (List UInt8)) (lv:Nat) (i:Int) (x:RO):List Nt:=
 match ts with
 |[p,q]=>if dJ p=true/\eV q=true then(if x.fheaded=true then(if i1 p=x.fmany+(if lv=2 then 1 else 0) then[] else[⟨3,i⟩])++(if q=x.fref then[] else[⟨4,i⟩]) else[]) else[⟨6,i⟩]
 |_=>[⟨6,i⟩]
noncomputable def mS (s:aa) (lv:Nat) (i:Int) (a:RA):RA:=
 if a.flevels.length<=lv then mR a 1 i else
  match a.flevels[lv]? with
  |none=>a
  |some x=>⟨a.flevels.take lv,(a8 (lv+1) i a).fnotes++(if s.fElements.all dt=true then I1 (s.fElements.map firstT) lv i x else[⟨6,i⟩])⟩
def rb (lv:Nat):List UInt8:=if lv=0 then BG else if lv=1 then Ex else Ey
theorem Rk (a:RA) (s:aa) (lv i:Nat) {n:Nat} (hn:n<=2001) (hB:x_ n a) (f:lv<=2) (hT:s.fTag=rb lv) (hE:vw s.fElements):
  dw a s (i:Int)=some ((),mS s lv (i:Int) a):=by
 obtain⟨b1,b2,b3⟩:=hB
 have u:dK s.fTag=lv+1:=by
  rw[hT]
  have:lv=0\/lv=1\/lv=2:=by omega
  rcases this with rfl|rfl|rfl<;>rfl
 have hM:decide (s.fTag=[77,84,82])=decide (lv=2):=by
  rw[hT]
  have:lv=0\/lv=1\/lv=2:=by omega
  rcases this with rfl|rfl|rfl<;>rfl
 have hl:=pA hE
 have ht:=Cc s.fTag hE
 unfold dw wG;dsimp only
 rw[F4,u]
 simp only[Vh]
 rw[hM]
 unfold mS
 rcases VR lv a.flevels.length with h1|h1
 ·rw[WU oM]
  have H:decide ((a.flevels.length:Int)<((lv+1:Nat):Int))=false:=VY oM
  obtain⟨x,hx⟩:=dl h1
  have A:=F5 a (lv+1) (i:Int) oM b1
  have Y:a.flevels.take (lv+1)=a.flevels.take lv++[x]:=je hx
  have J:(a.flevels.take lv).length=lv:=by rw[VA];omega
  have w:IntKind.i64.wrap (((lv+1:Nat):Int) - 1)=(lv:Int):=by rw[bk _ oM oM];omega
  have hN:(a8 (lv+1) (i:Int) a).fnotes.length<=10 * n+3:=by simp only[a8,Vl,VE];omega
  obtain⟨T,c2,S⟩:=b3 x (Vq hx)
  rw[H,A]
  simp only[Vn,Vh,w,hx]
  rw[show(a8 (lv+1) (i:Int) a).flevels=a.flevels.take lv++[x] from Y]
  generalize(a8 (lv+1) (i:Int) a).fnotes=N at hN
  generalize a.flevels.take lv=P at J
  have g1:aV (P++[x]) (lv:Int)=some x:=by rw[am,<-J];simp
  have g2:∀ y:RO,(P++[x]).set lv y=P++[y]:=fun y=>by rw[<-J];simp
  have g3:∀ y:RO,b5 (P++[y]) 0 (lv:Int)=some P:=fun y=>by rw[n5 _ _ oT,<-J];simp
  have o:∀ L k,bD ⟨L,N⟩ k (i:Int)=some ((),⟨L,N++[⟨k,i⟩]⟩):=fun L k=>vx _ _ _ (by simp only;omega)
  have V:∀ L k j,bD ⟨L,N++[⟨j,i⟩]⟩ k (i:Int)=some ((),⟨L,N++[⟨j,i⟩]++[⟨k,i⟩]⟩):=fun L k j=>vx _ _ _ (by simp only[Vl,Vk,Vp];omega)
  have w2:IntKind.i64.wrap (x.fmany+1)=x.fmany+1:=bk _ oM oM
  have M:dM s=some (s.fElements.map firstT,s.fElements.all dt):=ht
  simp only[g1,Vh,M,Ww,g2,w2]
  generalize s.fElements.map firstT=ts at hl
  cases hs:s.fElements.all dt with
  |false=>
   simp only[CB,Vh,Vn,o,g3]
   cases decide (lv=2)<;>rfl
  |true=>
   simp only[F3,Vh,VW]
   match ts with
   |[]=>simp only[show decide ((([]:List (List UInt8)).length:Int)=2)=false from rfl,Vn,o,g3,Vh,I1];cases decide (lv=2)<;>rfl
   |[p]=>simp only[show decide ((([p]:List (List UInt8)).length:Int)=2)=false from rfl,Vn,o,g3,Vh,I1];cases decide (lv=2)<;>rfl
   |p::q::r::ts=>
    have d2:decide (((p::q::r::ts).length:Int)=2)=false:=by simp only[Vk,VJ];omega
    simp only[d2,Vn,o,g3,Vh,I1];cases decide (lv=2)<;>rfl
   |[p,q]=>
    have d2:decide ((([p,q]:List (List UInt8)).length:Int)=2)=true:=rfl
    have e0:aV [p,q] 0=some p:=rfl
    have e1:aV [p,q] 1=some q:=rfl
    have l:dZ p 9 999999999=some (if dJ p=true then i1 p else 0,dJ p):=by
     rw[QK p _ (hl p oS)]
     cases h:dJ p with
     |true=>simp[O9 h]
     |false=>simp
    simp only[d2,Vo,e0,e1,Vh,l,yT (hl q oS),bx,o,g3,I1]
    cases u9:dJ p with
    |false=>simp only[VB,Bool.true_or,Vo];cases decide (lv=2)<;>simp
    |true=>
     cases b:eV q with
     |false=>simp only[Vt,VB,Wm,Vo];cases decide (lv=2)<;>simp
     |true=>
      simp only[Vt,Wm,Vn,VW,and_self]
      cases s8:x.fheaded with
      |false=>simp only[Vn];cases decide (lv=2)<;>simp
      |true=>
       simp only[Vo,VW]
       by_cases h2:lv=2
       ·rw[VX h2,Wy h2]
        simp only[Vo]
        by_cases E:i1 p=x.fmany+1<;>by_cases h4:q=x.fref<;>simp[E,h4,V,g3]
       ·rw[VY h2,WU h2]
        simp only[Vn,Int.add_zero]
        by_cases E:i1 p=x.fmany<;>by_cases h4:q=x.fref<;>simp[E,h4,V,g3]
 ·rw[Wy h1]
  have H:decide ((a.flevels.length:Int)<((lv+1:Nat):Int))=true:=VX oM
  rw[H,vx a 1 (i:Int) oM]
  rfl
def rD:RO:=⟨false,[],0,[]⟩
def go (es:List ak):List UInt8:=match es with|[]=>[]|e::_=>if dt e=true then firstT e else[]
def sx (ref:List UInt8) (i:Int) (a:RA):RA:=match a.flevels.getLast? with|none=>a|some x=>⟨a.flevels.dropLast++[tb ref x],a.fnotes++CC ref x i⟩
theorem vy (ref:List UInt8) (i:Int) (N:List Nt):sx ref i ⟨[],N⟩=⟨[],N⟩:=rfl
theorem rr (ref:List UInt8) (i:Int) (L:List RO) (x:RO) (N:List Nt):sx ref i ⟨L++[x],N⟩=⟨L++[tb ref x],N++CC ref x i⟩:=by
 unfold sx
 simp
theorem CD (ref:List UInt8) (i:Int) (a:RA):(sx ref i a).flevels.length=a.flevels.length:=by
 obtain⟨L,N⟩:=a
 rcases WW L with rfl|⟨P,x,rfl⟩
 ·rfl
 ·rw[WX,rr];simp
theorem Rm (L:List RO) (N:List Nt) (i:Int) (ref:List UInt8) (h1:ref.length<=MX) (h2:L.length<=3) (E:N.length<=100000) (h4:∀ x∈L,0<=x.fmany/\x.fmany<=100000/\x.frefs.length<=100000):
  aR ⟨L,N⟩ i ref=some ((),sx ref i ⟨L,N⟩):=by
 rcases WW L with rfl|⟨P,x,rfl⟩
 ·rw[Lc,vy]
 ·rw[WX] at h2 h4⊢
  obtain⟨T,c2,S⟩:=h4 x oS
  rw[rr,ME P x N i ref h1 (by simp at h2;omega) E S ⟨T,c2⟩]
def hH (lv:Nat) (i:Int) (a:RA):RA:=if a.flevels.length<lv then⟨a.flevels++List.replicate (lv - a.flevels.length) rD,a.fnotes++[⟨1,i⟩]⟩ else a
noncomputable def ka (s:aa) (i:Int) (a:RA):RA:=if IP s=true then a else mR a 6 i
noncomputable def mu (s:aa) (lv:Nat) (i:Int) (a:RA):RA:=
 let b:=sx (go s.fElements) i (ka s i (hH lv i (a8 lv i a)))
 ⟨b.flevels++[⟨true,kZ s.fElements,if lv=2 then 1 else 0,[]⟩],b.fnotes⟩
def yV (lv:Nat):List UInt8:=if lv=0 then i2 else if lv=1 then pB else oh
theorem Rn (lv:Nat) (L:List RO) (N:List Nt) (f:lv<=3) (u:L.length<=lv) (K:List RO×List Nt->Option (Unit×RA)):
  (bn (fun s:List RO×List Nt=>bif decide (((s.1.length:Nat):Int)<(lv:Int)) then ew (gq (s.1.length+1)) (some (.inl (s.1++[rD],s.2))) else gr (some (.inl (s.1,s.2)))) (L,N)).bind (bZ K)=K (L++List.replicate (lv - L.length) rD,N):=by
 rw[show(L,N)=((fun d:Nat=>(L++List.replicate d rD,N)) 0) by simp]
 refine pZ (X:=Nat) (fun d:Nat=>(L++List.replicate d rD,N)) (fun d=>lv - L.length - d) (fun d=>d<=lv - L.length) ?_ 0 (V0 _)
 intro d hd
 have I:(L++List.replicate d rD).length=L.length+d:=by rw[Vl,VE]
 rcases VR d (lv - L.length) with h1|h1
 ·refine .inl ⟨d+1,h1,by omega, ?_⟩
  have H:decide (((L++List.replicate d rD).length:Int)<(lv:Int))=true:=VX (by rw[I];omega)
  have hl:gq ((L++List.replicate d rD).length+1)=some ():=by unfold gq;rw[Wy (by rw[I];omega)]
  dsimp only
  rw[H,hl,<-yU,<-Vy]
  rfl
 ·have m:d=lv - L.length:=by omega
  have H:decide (((L++List.replicate d rD).length:Int)<(lv:Int))=false:=VY (by rw[I];omega)
  refine .inr ⟨.inl (L++List.replicate d rD,N), ?_, ?_⟩
  ·dsimp only
   rw[H];rfl
  ·rw[m];rfl
theorem Pd (a:RA) (s:aa) (lv i:Nat) {n:Nat} (hn:n<=2001) (hB:x_ n a) (f:lv<=2) (hT:s.fTag=yV lv) (hE:vw s.fElements):
  dx a s (i:Int)=some ((),mu s lv (i:Int) a):=by
 obtain⟨b1,b2,b3⟩:=hB
 have u:dK s.fTag=lv+1:=by
  rw[hT]
  have:lv=0\/lv=1\/lv=2:=by omega
  rcases this with rfl|rfl|rfl<;>rfl
 have hM:decide (s.fTag=[77,72,68])=decide (lv=2):=by
  rw[hT]
  have:lv=0\/lv=1\/lv=2:=by omega
  rcases this with rfl|rfl|rfl<;>rfl
 have j:s.fTag=i2\/s.fTag=pB\/s.fTag=oh:=by
  rw[hT]
  have:lv=0\/lv=1\/lv=2:=by omega
  rcases this with rfl|rfl|rfl
  ·exact .inl rfl
  ·exact .inr (.inl rfl)
  ·exact .inr (.inr rfl)
 have B:=Ri s hE j
 have A:=F5 a lv (i:Int) oM b1
 have w:IntKind.i64.wrap (((lv+1:Nat):Int) - 1)=(lv:Int):=by rw[bk _ oM oM];omega
 have c:(a8 lv (i:Int) a).flevels.length<=lv:=by simp only[a8,VA];omega
 have hN:(a8 lv (i:Int) a).fnotes.length<=10 * n+3:=by simp only[a8,Vl,VE];omega
 have Z:∀ x∈(a8 lv (i:Int) a).flevels,0<=x.fmany/\x.fmany<=100000/\x.frefs.length<=100000:=by
  intro x hx
  have:=b3 x (VU hx)
  omega
 unfold dx wH;dsimp only
 rw[F4,u]
 simp only[Vh]
 rw[w,A]
 simp only[Vh,B,hM]
 unfold mu hH
 generalize a8 lv (i:Int) a=a1 at c hN Z
 obtain⟨L,N⟩:=a1
 simp only at c hN Z⊢
 have z:∀ (g:List RO) (d:List Nt),g.length<=lv->d.length<=10 * n+5->(∀ x∈g,0<=x.fmany/\x.fmany<=100000/\x.frefs.length<=100000)->
   aR ⟨g,d⟩ (i:Int) (go s.fElements)=some ((),sx (go s.fElements) i ⟨g,d⟩)/\gq ((sx (go s.fElements) (i:Int) ⟨g,d⟩).flevels.length+1)=some ():=by
  intro g d k1 k2 k3
  refine⟨Rm g d (i:Int) _ ?_ oM oM k3, ?_⟩
  ·cases hs:s.fElements with
   |nil=>simp[go]
   |cons e es=>
    unfold go
    simp only
    split
    ·exact pA hE _ (by rw[hs];simp)
    ·simp
  ·unfold gq
   rw[Wy (by rw[CD];simp only;omega)]
 rcases VR L.length lv with hc|hc
 ·have H:decide ((L.length:Int)<(lv:Int))=true:=VX oM
  rw[H,Wy hc,vx _ 1 (i:Int) (by simp only;omega)]
  simp only[Vo,Vh,mR]
  refine(Rn lv L (N++[⟨1,i⟩]) oM c _).trans ?_
  have k1:(L++List.replicate (lv - L.length) rD).length<=lv:=by simp only[Vl,VE];omega
  have k2:(N++[(⟨1,(i:Int)⟩:Nt)]).length<=10 * n+4:=by simp only[Vl,Vk,Vp];omega
  have k3:∀ x∈L++List.replicate (lv - L.length) rD,0<=x.fmany/\x.fmany<=100000/\x.frefs.length<=100000:=by
   intro x hx
   rcases VM.1 hx with hx|hx
   ·exact Z x hx
   ·rw[Xo hx];simp[rD]
  generalize L++List.replicate (lv - L.length) rD=g at k1 k3
  generalize N++[(⟨1,(i:Int)⟩:Nt)]=h at k2
  cases hh:IP s with
  |true=>
   obtain⟨r1,r2⟩:=z g h k1 oM k3
   simp only[Vt,Vn,ka,hh,VW]
   cases y:s.fElements with
   |nil=>
    rw[y] at r1 r2
    simp only[go] at r1 r2
    have d2:decide ((0:Int)<((([]:List ak).length:Nat):Int))=false:=rfl
    simp only[d2,Vn,r1,Vh,ew,kZ,go]
    by_cases h2:lv=2
    ·simp only[VX h2,Vo,Wy h2,Vk,Vp,VD,r2,Vh]
    ·simp only[VY h2,Vn,WU h2,Vk,Vp,VD,r2,Vh]
   |cons e es=>
    rw[y] at r1 r2 hE
    have d2:decide ((0:Int)<(((e::es).length:Nat):Int))=true:=VX (by simp only[Vk];omega)
    have g1:aV (e::es) 0=some e:=rfl
    obtain⟨r,q1,q2,q3⟩:=zV (hE.2 e oS)
    simp only[d2,Vo,g1,Vh,q1,q2,aO,q3,kZ]
    cases b:dt e with
    |true=>
     simp only[go,b,VW] at r1 r2⊢
     simp only[Vo,r1,Vh,ew]
     by_cases h2:lv=2
     ·simp only[VX h2,Vo,Wy h2,Vk,Vp,VD,r2,Vh]
     ·simp only[VY h2,Vn,WU h2,Vk,Vp,VD,r2,Vh]
    |false=>
     simp only[go,b,Vw,VQ] at r1 r2⊢
     simp only[Vn,r1,Vh,ew]
     by_cases h2:lv=2
     ·simp only[VX h2,Vo,Wy h2,Vk,Vp,VD,r2,Vh]
     ·simp only[VY h2,Vn,WU h2,Vk,Vp,VD,r2,Vh]
  |false=>
   have k4:(h++[(⟨6,(i:Int)⟩:Nt)]).length<=10 * n+5:=by simp only[Vl,Vk,Vp];omega
   simp only[VB,Vo,ka,hh,Vw,VQ]
   rw[vx _ 6 (i:Int) (by simp only;omega)]
   simp only[Vh,mR]
   generalize h++[(⟨6,(i:Int)⟩:Nt)]=d at k4
   obtain⟨r1,r2⟩:=z g d k1 oM k3
   cases y:s.fElements with
   |nil=>
    rw[y] at r1 r2
    simp only[go] at r1 r2
    have d2:decide ((0:Int)<((([]:List ak).length:Nat):Int))=false:=rfl
    simp only[d2,Vn,r1,Vh,ew,kZ,go]
    by_cases h2:lv=2
    ·simp only[VX h2,Vo,Wy h2,Vk,Vp,VD,r2,Vh]
    ·simp only[VY h2,Vn,WU h2,Vk,Vp,VD,r2,Vh]
   |cons e es=>
    rw[y] at r1 r2 hE
    have d2:decide ((0:Int)<(((e::es).length:Nat):Int))=true:=VX (by simp only[Vk];omega)
    have g1:aV (e::es) 0=some e:=rfl
    obtain⟨r,q1,q2,q3⟩:=zV (hE.2 e oS)
    simp only[d2,Vo,g1,Vh,q1,q2,aO,q3,kZ]
    cases b:dt e with
    |true=>
     simp only[go,b,VW] at r1 r2⊢
     simp only[Vo,r1,Vh,ew]
     by_cases h2:lv=2
     ·simp only[VX h2,Vo,Wy h2,Vk,Vp,VD,r2,Vh]
     ·simp only[VY h2,Vn,WU h2,Vk,Vp,VD,r2,Vh]
    |false=>
     simp only[go,b,Vw,VQ] at r1 r2⊢
     simp only[Vn,r1,Vh,ew]
     by_cases h2:lv=2
     ·simp only[VX h2,Vo,Wy h2,Vk,Vp,VD,r2,Vh]
     ·simp only[VY h2,Vn,WU h2,Vk,Vp,VD,r2,Vh]
 ·have H:decide ((L.length:Int)<(lv:Int))=false:=VY oM
  rw[H,WU oM]
  simp only[Vn]
  cases hh:IP s with
  |true=>
   obtain⟨r1,r2⟩:=z L N c oM Z
   simp only[Vt,Vn,ka,hh,VW]
   cases y:s.fElements with
   |nil=>
    rw[y] at r1 r2
    simp only[go] at r1 r2
    have d2:decide ((0:Int)<((([]:List ak).length:Nat):Int))=false:=rfl
    simp only[d2,Vn,r1,Vh,ew,kZ,go]
    by_cases h2:lv=2
    ·simp only[VX h2,Vo,Wy h2,Vk,Vp,VD,r2,Vh]
    ·simp only[VY h2,Vn,WU h2,Vk,Vp,VD,r2,Vh]
   |cons e es=>
    rw[y] at r1 r2 hE
    have d2:decide ((0:Int)<(((e::es).length:Nat):Int))=true:=VX (by simp only[Vk];omega)
    have g1:aV (e::es) 0=some e:=rfl
    obtain⟨r,q1,q2,q3⟩:=zV (hE.2 e oS)
    simp only[d2,Vo,g1,Vh,q1,q2,aO,q3,kZ]
    cases b:dt e with
    |true=>
     simp only[go,b,VW] at r1 r2⊢
     simp only[Vo,r1,Vh,ew]
     by_cases h2:lv=2
     ·simp only[VX h2,Vo,Wy h2,Vk,Vp,VD,r2,Vh]
     ·simp only[VY h2,Vn,WU h2,Vk,Vp,VD,r2,Vh]
    |false=>
     simp only[go,b,Vw,VQ] at r1 r2⊢
     simp only[Vn,r1,Vh,ew]
     by_cases h2:lv=2
     ·simp only[VX h2,Vo,Wy h2,Vk,Vp,VD,r2,Vh]
     ·simp only[VY h2,Vn,WU h2,Vk,Vp,VD,r2,Vh]
  |false=>
   have k4:(N++[(⟨6,(i:Int)⟩:Nt)]).length<=10 * n+5:=by simp only[Vl,Vk,Vp];omega
   simp only[VB,Vo,ka,hh,Vw,VQ]
   rw[vx _ 6 (i:Int) (by simp only;omega)]
   simp only[Vh,mR]
   generalize N++[(⟨6,(i:Int)⟩:Nt)]=d at k4
   obtain⟨r1,r2⟩:=z L d c oM Z
   cases y:s.fElements with
   |nil=>
    rw[y] at r1 r2
    simp only[go] at r1 r2
    have d2:decide ((0:Int)<((([]:List ak).length:Nat):Int))=false:=rfl
    simp only[d2,Vn,r1,Vh,ew,kZ,go]
    by_cases h2:lv=2
    ·simp only[VX h2,Vo,Wy h2,Vk,Vp,VD,r2,Vh]
    ·simp only[VY h2,Vn,WU h2,Vk,Vp,VD,r2,Vh]
   |cons e es=>
    rw[y] at r1 r2 hE
    have d2:decide ((0:Int)<(((e::es).length:Nat):Int))=true:=VX (by simp only[Vk];omega)
    have g1:aV (e::es) 0=some e:=rfl
    obtain⟨r,q1,q2,q3⟩:=zV (hE.2 e oS)
    simp only[d2,Vo,g1,Vh,q1,q2,aO,q3,kZ]
    cases b:dt e with
    |true=>
     simp only[go,b,VW] at r1 r2⊢
     simp only[Vo,r1,Vh,ew]
     by_cases h2:lv=2
     ·simp only[VX h2,Vo,Wy h2,Vk,Vp,VD,r2,Vh]
     ·simp only[VY h2,Vn,WU h2,Vk,Vp,VD,r2,Vh]
    |false=>
     simp only[go,b,Vw,VQ] at r1 r2⊢
     simp only[Vn,r1,Vh,ew]
     by_cases h2:lv=2
     ·simp only[VX h2,Vo,Wy h2,Vk,Vp,VD,r2,Vh]
     ·simp only[VY h2,Vn,WU h2,Vk,Vp,VD,r2,Vh]
noncomputable section
variable {A S:Type} {k:Nat} {f:S->Option (S⊕A)} {s:S}
section
variable {α R:Type}
theorem ly {s':S} (h:f s=some (.inl s')):bn f s=bn f s':=by rw[bS,h]
theorem gD {a:A} (h:f s=some (.inr a)):bn f s=some a:=by rw[bS,h]
def IK (L:List α) (i j:Int) (k:List α->Option R):Option R:=
 (aV L j).bind fun _=>L[j.toNat]?.bind fun e=>(aV L i).bind fun _=>L[i.toNat]?.bind fun e2=>(aV L i).bind fun _=>L[i.toNat]?.bind fun _=>
  (aV (L.set i.toNat e) j).bind fun _=>(L.set i.toNat e)[j.toNat]?.bind fun _=>k ((L.set i.toNat e).set j.toNat e2)
theorem OD {L:List α} {i j:Nat} {u v w:α} {k:List α->Option R} (hi:L[i]?=some u) (hj:L[j]?=some v) (G:(L.set i v)[j]?=some w):IK L (i:Int) (j:Int) k=k ((L.set i v).set j u):=by
 unfold IK
 simp only[am,Ww,hi,hj,G,Vh]
theorem uW (X Y:List α) (u:α):(X++u::Y)[X.length]?=some u:=by simp
theorem zP (X Y:List α) (u v:α):(X++u::Y).set X.length v=X++v::Y:=by simp
theorem OE (X Y Z:List α) (u v:α) (k:List α->Option R):IK (X++u::(Y++v::Z)) (X.length:Int) ((X.length+1+Y.length:Nat):Int) k=k (X++v::(Y++u::Z)):=by
 have e1:∀ w z:α,X++w::(Y++z::Z)=(X++w::Y)++z::Z:=fun w z=>by simp
 have e2:∀ w:α,X.length+1+Y.length=(X++w::Y).length:=fun w=>by simp;omega
 have hj:∀ w z:α,(X++w::(Y++z::Z))[X.length+1+Y.length]?=some z:=fun w z=>by rw[e1,e2 w];exact uW _ _ _
 rw[OD (uW X _ u) (hj u v) (by rw[zP];exact hj v v),zP,e1 v v,e2 v,zP,<-e1]
theorem OG (X Y Z:List α) (u v:α) (k:List α->Option R):IK (X++u::(Y++v::Z)) ((X.length+1+Y.length:Nat):Int) (X.length:Int) k=k (X++v::(Y++u::Z)):=by
 have e1:∀ w z:α,X++w::(Y++z::Z)=(X++w::Y)++z::Z:=fun w z=>by simp
 have e2:∀ w:α,X.length+1+Y.length=(X++w::Y).length:=fun w=>by simp;omega
 have hj:∀ w z:α,(X++w::(Y++z::Z))[X.length+1+Y.length]?=some z:=fun w z=>by rw[e1,e2 w];exact uW _ _ _
 have hs:∀ w z y:α,(X++w::(Y++z::Z)).set (X.length+1+Y.length) y=X++w::(Y++y::Z):=fun w z y=>by rw[e1,e2 w,zP,<-e1]
 rw[OD (hj u v) (uW X _ u) (by rw[hs];exact uW X _ u),hs,zP]
structure ss (lt:α->α->Bool):Prop where
 asym:∀ a b,lt a b=true->lt b a=false
 tr:∀ a b c,lt b a=false->lt c b=false->lt c a=false
def nr (lt:α->α->Bool) (L:List α):Prop:=L.Pairwise (fun a b=>lt b a=false)
def ET (lt:α->α->Bool) (x y:α):Bool:= !lt x y&& !lt y x
def SP (lt:α->α->Bool) (X Y:List α):Prop:=X.Perm Y/\∀ x,X.filter (ET lt x)=Y.filter (ET lt x)
theorem SP.refl (lt:α->α->Bool) (X:List α):SP lt X X:=⟨.refl _,fun _=>rfl⟩
theorem SP.symm {lt:α->α->Bool} {X Y:List α} (h:SP lt X Y):SP lt Y X:=⟨h.1.symm,fun x=>(h.2 x).symm⟩
theorem SP.trans {lt:α->α->Bool} {X Y Z:List α} (h:SP lt X Y) (g:SP lt Y Z):SP lt X Z:=⟨h.1.trans g.1,fun x=>(h.2 x).trans (g.2 x)⟩
theorem SP.app {lt:α->α->Bool} {X Y a b:List α} (h:SP lt X a) (g:SP lt Y b):SP lt (X++Y) (a++b):=⟨h.1.append g.1,fun x=>by rw[List.filter_append,List.filter_append,h.2,g.2]⟩
theorem ss.lt_left {lt:α->α->Bool} (O:ss lt) {v v' x:α} (h:lt v v'=false) (g:lt v x=true):lt v' x=true:=by
 cases e:lt v' x with
 |true=>rfl
 |false=>rw[O.tr x v' v e h] at g;cases g
theorem ss.lt_right {lt:α->α->Bool} (O:ss lt) {v v' x:α} (h:lt v' v=false) (g:lt x v=true):lt x v'=true:=by
 cases e:lt x v' with
 |true=>rfl
 |false=>rw[O.tr v v' x h e] at g;cases g
theorem ss.irr {lt:α->α->Bool} (O:ss lt) (v:α):lt v v=false:=by
 cases e:lt v v with
 |false=>rfl
 |true=>rw[<-e];exact O.asym v v e
theorem SP.swap {lt:α->α->Bool} (O:ss lt) {U V:List α} (h:∀ u∈U,∀ v∈V,lt v u=true):SP lt (U++V) (V++U):=by
 refine⟨List.perm_append_comm,fun x=> ?_⟩
 rw[List.filter_append,List.filter_append]
 cases hu:U.filter (ET lt x) with
 |nil=>simp
 |cons u b=>
  have hV:V.filter (ET lt x)=[]:=by
   rw[List.filter_eq_nil_iff]
   intro v hv hx
   have i:=Xx.1 (hu▸List.mem_cons_self:u∈U.filter (ET lt x))
   have:=h u i.1 v hv
   have a:=i.2
   simp only[ET,Vj,Wb] at a hx
   rw[O.tr u x v a.1 hx.2] at this
   cases this
  rw[hV];simp
theorem lf {lt:α->α->Bool} {X Y:List α}:nr lt (X++Y)↔nr lt X/\nr lt Y/\∀ a∈X,∀ b∈Y,lt b a=false:=List.pairwise_append
theorem Qu (lt:α->α->Bool) (x:α):nr lt [x]:=List.pairwise_singleton _ _
theorem ui {lt:α->α->Bool} {V:List α} (h:nr lt V) {P:α->Prop} (O:ss lt) (hP:∀ v v',lt v v'=false->P v->P v') (hk:k=0\/∃ v,V[k - 1]?=some v/\P v):∀ w∈V.take k,P w:=by
 rcases hk with rfl|⟨v,hv,Y⟩
 ·simp
 ·intro w G
  obtain⟨i,hi,rfl⟩:=WS.1 G
  rw[List.getElem_take]
  obtain⟨s5,s6⟩:=Vr.1 hv
  have h5:i<k:=by have:=List.length_take_le k V;rw[VA] at hi;omega
  rcases W1 (show i<=k - 1 by omega) with h9|B
  ·exact hP v _ (by rw[<-s6];exact List.pairwise_iff_getElem.1 h i (k - 1) oM s5 h9) Y
  ·subst B;rw[s6];exact Y
theorem zQ {lt:α->α->Bool} {V:List α} (h:nr lt V) {P:α->Prop} (hP:∀ v v',lt v' v=false->P v->P v') (hk:V.length<=k\/∃ v,V[k]?=some v/\P v):∀ w∈V.drop k,P w:=by
 rcases hk with hk|⟨v,hv,Y⟩
 ·rw[WM hk];simp
 ·intro w G
  obtain⟨i,hi,rfl⟩:=WS.1 G
  rw[List.getElem_drop]
  obtain⟨s5,s6⟩:=Vr.1 hv
  rw[Wd] at hi
  rcases Xg i with rfl|h5
  ·simp only[WO];rw[s6];exact Y
  ·exact hP v _ (by rw[<-s6];exact List.pairwise_iff_getElem.1 h k (k+i) s5 oM oM) Y
theorem El {lt:α->α->Bool} (O:ss lt):∀ {X Y:List α},nr lt X->nr lt Y->SP lt X Y->X=Y:=by
 intro X
 induction X with
 |nil=>intro Y _ _ h;exact(h.1.nil_eq)
 |cons x X ih=>
  intro Y hX c h
  cases Y with
  |nil=>exact absurd h.1.symm.nil_eq oS
  |cons y Y=>
   have d:lt y x=false:=by
    have:=h.1.symm.subset (List.mem_cons_self:y∈y::Y)
    rcases VK.1 this with rfl|Z
    ·exact O.irr _
    ·exact(W0.1 hX).1 y Z
   have a:lt x y=false:=by
    have:=h.1.subset (List.mem_cons_self:x∈x::X)
    rcases VK.1 this with rfl|Z
    ·exact O.irr _
    ·exact(W0.1 c).1 x Z
   have C:=h.2 x
   have e1:ET lt x x=true:=by simp[ET,O.irr]
   have e2:ET lt x y=true:=by simp[ET,d,a]
   rw[List.filter_cons_of_pos e1,List.filter_cons_of_pos e2] at C
   injection C with j b
   subst j
   rw[ih (W0.1 hX).2 (W0.1 c).2 ⟨(List.perm_cons _).1 h.1,fun z=> ?_⟩]
   have:=h.2 z
   rw[List.filter_cons,List.filter_cons] at this
   split at this
   ·injection this
   ·exact this
def KX (a b n:Int):List α×Int->Option ((List α×Int)⊕((List α×Int)⊕(Unit×List α))):=fun s=>
 bif decide (s.2<n) then IK s.1 (IntKind.i64.wrap (a+s.2)) (IntKind.i64.wrap (b+s.2)) (fun d=>some (.inl (d,IntKind.i64.wrap (s.2+1)))) else gr (some (.inl (s.1,s.2)))
def Em (L:List α) (a b n:Int):Option (Unit×List α):=(bn (KX a b n) (L,0)).bind (bZ fun s=>some ((),s.1))
theorem J0:∀ (U V A M B:List α) (a b n i:Nat),U.length=V.length->A.length+U.length+M.length+V.length<=1152921504606846976->a+i=A.length->b+i=A.length+U.length+M.length->n=i+U.length->
  bn (KX (a:Int) (b:Int) (n:Int)) (A++U++M++V++B,(i:Int))=some (.inl (A++V++M++U++B,(n:Int))):=by
 intro U
 induction U with
 |nil=>
  intro V A M B a b n i hl hb h1 h2 E
  have hV:V=[]:=by cases V with
   |nil=>rfl
   |cons _ _=>simp at hl
  subst hV
  have:n=i:=by simpa using E
  subst this
  refine gD ?_
  unfold KX
  simp[gr]
 |cons u U ih=>
  intro V A M B a b n i hl hb h1 h2 E
  cases V with
  |nil=>simp at hl
  |cons v V=>
   simp only[Vk] at hl hb h2 E
   have e:A++u::U++M++v::V++B=A++u::((U++M)++v::(V++B)):=by simp
   have w1:IntKind.i64.wrap ((a:Int)+(i:Int))=(A.length:Int):=by rw[bk _ oM oM];omega
   have w2:IntKind.i64.wrap ((b:Int)+(i:Int))=((A.length+1+(U++M).length:Nat):Int):=by rw[bk _ oM oM,Vl];omega
   have w3:IntKind.i64.wrap ((i:Int)+1)=((i+1:Nat):Int):=aW i oM
   have hd:decide (((i:Nat):Int)<(n:Int))=true:=by simp;omega
   rw[e]
   refine(ly (s':=((A++[v])++U++(M++[u])++V++B,((i+1:Nat):Int))) ?_).trans ?_
   ·unfold KX
    dsimp only
    rw[hd,w1,w2,w3]
    dsimp only[cond_true]
    rw[OE]
    simp
   ·rw[ih V (A++[v]) (M++[u]) B a b n (i+1) oM oT oT oT oM]
    simp
theorem En (U V A M B:List α) (a b n:Int) (hl:U.length=V.length) (hb:A.length+U.length+M.length+V.length<=1152921504606846976) (ha:a=(A.length:Nat)) (o:b=((A.length+U.length+M.length:Nat):Int)) (hn:n=(U.length:Nat)):
  Em (A++U++M++V++B) a b n=some ((),A++V++M++U++B):=by
 subst ha o hn
 unfold Em
 rw[show(0:Int)=((0:Nat):Int) from rfl,J0 U V A M B _ _ _ 0 hl hb oM oM oM]
 rfl
def OH (m:Int):List α×Int×Int->Option ((List α×Int×Int)⊕((List α×Int×Int)⊕(Unit×List α))):=fun s=>
 bif !decide (s.2.1=s.2.2) then
  bif decide (s.2.2<s.2.1) then(Em s.1 (IntKind.i64.wrap (m - s.2.1)) m s.2.2).bind fun y=>some (.inl (y.2,IntKind.i64.wrap (s.2.1 - s.2.2),s.2.2))
  else(Em s.1 (IntKind.i64.wrap (m - s.2.1)) (IntKind.i64.wrap (IntKind.i64.wrap (m+s.2.2) - s.2.1)) s.2.1).bind fun y=>some (.inl (y.2,s.2.1,IntKind.i64.wrap (s.2.2 - s.2.1)))
 else gr (some (.inl (s.1,s.2.1,s.2.2)))
def Qv (L:List α) (a m b:Int):Option (Unit×List α):=
 (bn (OH m) (L,IntKind.i64.wrap (m - a),IntKind.i64.wrap (b - m))).bind (bZ fun s=>(Em s.1 (IntKind.i64.wrap (m - s.2.1)) m s.2.1).bind fun y=>some ((),y.2))
theorem L9:∀ (n:Nat) (P U V S:List α) (m:Nat),U.length+V.length<=n->U≠[]->V≠[]->(P++U++V++S).length<=1152921504606846976->m=P.length+U.length->
  (bn (OH (m:Int)) (P++U++V++S,(U.length:Int),(V.length:Int))).bind (bZ fun s=>(Em s.1 (IntKind.i64.wrap ((m:Int) - s.2.1)) (m:Int) s.2.1).bind fun y=>some ((),y.2))=some ((),P++V++U++S):=by
 intro n
 induction n with
 |zero=>intro P U V S m h hU;cases U with
  |nil=>exact absurd rfl hU
  |cons _ _=>simp at h
 |succ n ih=>
  intro P U V S m h hU hV hb Z
  have r:0<U.length:=WI.2 hU
  have t:0<V.length:=WI.2 hV
  have h6:P.length+U.length+V.length+S.length<=1152921504606846976:=by simpa[Xc] using hb
  have w1:IntKind.i64.wrap ((m:Int) - (U.length:Int))=((P.length:Nat):Int):=by rw[bk _ oM oM];omega
  rcases Nat.lt_trichotomy U.length V.length with h9|B|c
  ·
   have hd:(!decide ((U.length:Int)=(V.length:Int)))=true:=by simp;omega
   have p:decide ((V.length:Int)<(U.length:Int))=false:=by simp;omega
   have w2:IntKind.i64.wrap (IntKind.i64.wrap ((m:Int)+(V.length:Int)) - (U.length:Int))=((P.length+V.length:Nat):Int):=by
    rw[bk ((m:Int)+(V.length:Int)) oM oM,bk _ oM oM];omega
   have w3:IntKind.i64.wrap ((V.length:Int) - (U.length:Int))=((V.length - U.length:Nat):Int):=by rw[bk _ oM oM];omega
   have e:V=V.take (V.length - U.length)++V.drop (V.length - U.length):=(VH _ _).symm
   generalize b:V.take (V.length - U.length)=j at e
   generalize d:V.drop (V.length - U.length)=l at e
   have l1:j.length=V.length - U.length:=by rw[<-b,VA];omega
   have l2:l.length=U.length:=by rw[<-d,Wd];omega
   have hs:=En U l P j S (P.length:Int) ((P.length+V.length:Nat):Int) (U.length:Int) l2.symm oM rfl oM rfl
   rw[ly (s':=(P++l++j++(U++S),(l.length:Int),(j.length:Int)))]
   ·rw[ih P l j (U++S) m oM (by intro h0;rw[h0] at l2;simp at l2;omega) (by intro h0;rw[h0] at l1;simp at l1;omega) oT oM]
    rw[e];simp
   ·unfold OH
    dsimp only
    rw[hd,p,w1,w2,w3]
    dsimp only[cond_true,cond_false]
    rw[show P++U++V++S=P++U++j++l++S by rw[e];simp,hs,l2,l1]
    simp
  ·have hd:(!decide ((U.length:Int)=(V.length:Int)))=false:=by simp;omega
   rw[gD (a:= .inl (P++U++V++S,(U.length:Int),(V.length:Int)))]
   ·simp only[Vh,bZ]
    rw[w1,show P++U++V++S=P++U++[]++V++S by simp,En U V P [] S _ _ _ B oT rfl oT rfl]
    simp
   ·unfold OH
    dsimp only
    rw[hd]
    simp[gr]
  ·have hd:(!decide ((U.length:Int)=(V.length:Int)))=true:=by simp;omega
   have p:decide ((V.length:Int)<(U.length:Int))=true:=by simp;omega
   have w3:IntKind.i64.wrap ((U.length:Int) - (V.length:Int))=((U.length - V.length:Nat):Int):=by rw[bk _ oM oM];omega
   have e:U=U.take V.length++U.drop V.length:=(VH _ _).symm
   generalize g:U.take V.length=f at e
   generalize k:U.drop V.length=i at e
   have l1:f.length=V.length:=by rw[<-g,VA];omega
   have l2:i.length=U.length - V.length:=by rw[<-k,Wd]
   have hs:=En f V P i S (P.length:Int) (m:Int) (V.length:Int) l1 oM rfl oM oM
   rw[ly (s':=(P++V++i++f++S,(i.length:Int),(f.length:Int)))]
   ·rw[ih (P++V) i f S m oM (by intro h0;rw[h0] at l2;simp at l2;omega) (by intro h0;rw[h0] at l1;simp at l1;omega) oT oT]
    rw[e];simp
   ·unfold OH
    dsimp only
    rw[hd,p,w1,w3]
    dsimp only[cond_true,cond_false]
    rw[show P++U++V++S=P++f++i++V++S by rw[e];simp,hs,l2,l1]
    simp
theorem Qw (P U V S:List α) (a m b:Int) (hU:U≠[]) (hV:V≠[]) (hb:(P++U++V++S).length<=1152921504606846976) (ha:a=(P.length:Nat)) (Z:m=((P.length+U.length:Nat):Int)) (o:b=((P.length+U.length+V.length:Nat):Int)):
  Qv (P++U++V++S) a m b=some ((),P++V++U++S):=by
 have h6:P.length+U.length+V.length+S.length<=1152921504606846976:=by simpa[Xc] using hb
 unfold Qv
 rw[show IntKind.i64.wrap (m - a)=(U.length:Int) by rw[bk _ oM oM];omega,show IntKind.i64.wrap (b - m)=(V.length:Int) by rw[bk _ oM oM];omega,Z]
 exact L9 _ P U V S _ (Vs _) hU hV hb rfl
end
end
noncomputable section
section
variable {α R:Type}
def L_ (c:α->α->Option Int) (a:Int):List α×Int->Option ((List α×Int)⊕((List α×Int)⊕((List α×Int)⊕((List α×Int)⊕(Unit×List α))))):=fun t=>
 (lD (decide (a<t.2)) ((aV t.1 t.2).bind fun _=>t.1[t.2.toNat]?.bind fun e=>(aV t.1 (IntKind.i64.wrap (t.2 - 1))).bind fun _=>t.1[(IntKind.i64.wrap (t.2 - 1)).toNat]?.bind fun e2=>(c e e2).bind fun x=>some (decide (x<0)))).bind fun v=>
  bif v then IK t.1 t.2 (IntKind.i64.wrap (t.2 - 1)) (fun d=>some (.inl (d,IntKind.i64.wrap (t.2 - 1)))) else gr (some (.inl (t.1,t.2)))
def OI (c:α->α->Option Int) (a b:Int):List α×Int->Option ((List α×Int)⊕((List α×Int)⊕(Unit×List α))):=fun s=>
 bif decide (s.2<b) then(bn (L_ c a) (s.1,s.2)).bind (bZ fun t=>some (.inl (t.1,IntKind.i64.wrap (s.2+1)))) else gr (some (.inl (s.1,s.2)))
def Ma (c:α->α->Option Int) (L:List α) (a b:Int):Option (Unit×List α):=(bn (OI c a b) (L,IntKind.i64.wrap (a+1))).bind (bZ fun s=>some ((),s.1))
def KY (Q:α->Prop) (c:α->α->Option Int) (lt:α->α->Bool):Prop:=∀ a b,Q a->Q b->∃ x,c a b=some x/\decide (x<0)=lt a b
theorem Mb {Q:α->Prop} {c:α->α->Option Int} {lt:α->α->Bool} (hc:KY Q c lt) (A:List α) (x:α) (hx:Q x):∀ (n:Nat) (P T:List α),(∀ y∈P,Q y)->P.length<=n->A.length+P.length<=1152921504606846976->
  ∃ f i,P=f++i/\bn (L_ c (A.length:Int)) (A++P++x::T,((A.length+P.length:Nat):Int))=some (.inl (A++f++x::(i++T),((A.length+f.length:Nat):Int)))/\(∀ y∈i,lt x y=true)/\(f=[]\/∃ y,f[f.length - 1]?=some y/\lt x y=false):=by
 intro n
 induction n with
 |zero=>
  intro P T _ hn hb
  have:P=[]:=Vx.1 oM
  subst this
  refine⟨[],[],rfl,gD ?_,by simp,.inl rfl⟩
  unfold L_
  simp[lD,gr]
 |succ n ih=>
  intro P T hP hn hb
  rcases WW P with rfl|⟨K,y,rfl⟩
  ·refine⟨[],[],rfl,gD ?_,by simp,.inl rfl⟩
   unfold L_
   simp[lD,gr]
  ·rw[WX] at hP hn hb⊢
   simp only[Vl,Vk,Vp] at hn hb
   obtain⟨z,hz,d⟩:=hc x y hx (hP y oS)
   have w1:IntKind.i64.wrap (((A.length+(K++[y]).length:Nat):Int) - 1)=(((A++K).length:Nat):Int):=by rw[bk _ oT oT];simp;omega
   have hd:decide ((A.length:Int)<((A.length+(K++[y]).length:Nat):Int))=true:=by simp;omega
   have e:A++(K++[y])++x::T=(A++K)++y::([]++x::T):=by simp
   have e2:A.length+(K++[y]).length=(A++K).length+1+([]:List α).length:=by simp;omega
   have g1:((A++K)++y::([]++x::T))[(A++K).length+1+([]:List α).length]?=some x:=by
    rw[show(A++K)++y::([]++x::T)=(A++K++[y])++x::T by simp,show(A++K).length+1+([]:List α).length=(A++K++[y]).length by simp;omega];exact uW _ _ _
   have g2:=uW (A++K) ([]++x::T) y
   have C:L_ c (A.length:Int) (A++(K++[y])++x::T,((A.length+(K++[y]).length:Nat):Int))=bif lt x y then some (.inl (A++K++x::(y::T),(((A++K).length:Nat):Int))) else some (.inr (.inl (A++(K++[y])++x::T,((A.length+(K++[y]).length:Nat):Int)))):=by
    unfold L_
    dsimp only
    rw[hd,w1,e,e2]
    simp only[am,Ww,g1,g2,Vh,hz,d,lD,Vo,OG]
    cases lt x y<;>simp[gr]
   cases hl:lt x y with
   |true=>
    rw[hl] at C
    obtain⟨f,i,h1,h2,E,h4⟩:=ih K (y::T) (fun z hz=>hP z (Wk _ hz)) oM oM
    refine⟨f,i++[y],by rw[h1];simp, ?_, ?_,h4⟩
    ·rw[ly C,Vl,h2];simp
    ·intro w G
     rcases VM.1 G with h|h
     ·exact E w h
     ·rw[V1.1 h];exact hl
   |false=>
    rw[hl] at C
    refine⟨K++[y],[],by simp,by rw[gD C];simp,by simp,.inr ⟨y, ?_,hl⟩⟩
    simp
theorem Mc {Q:α->Prop} {c:α->α->Option Int} {lt:α->α->Bool} (O:ss lt) (hc:KY Q c lt) (A B:List α):∀ (T P:List α),(∀ y∈P++T,Q y)->nr lt P->A.length+P.length+T.length<=1152921504606846976->
  ∃ W,bn (OI c (A.length:Int) ((A.length+P.length+T.length:Nat):Int)) (A++P++T++B,((A.length+P.length:Nat):Int))=some (.inl (A++W++B,((A.length+P.length+T.length:Nat):Int)))/\nr lt W/\SP lt (P++T) W:=by
 intro T
 induction T with
 |nil=>
  intro P _ hP hb
  refine⟨P,gD ?_,hP,by simpa using SP.refl lt P⟩
  unfold OI
  simp[gr]
 |cons x T ih=>
  intro P hQ hP hb
  simp only[Vk] at hb
  obtain⟨f,i,h1,h2,E,h4⟩:=Mb hc A x (hQ x oS) P.length P (T++B) (fun y hy=>hQ y (Wk _ hy)) (Vs _) oM
  have d:nr lt f/\nr lt i/\∀ a∈f,∀ b∈i,lt b a=false:=lf.1 (h1▸hP)
  have h5:∀ y∈f,lt x y=false:=by
   have:=ui (k:=f.length) d.1 (P:=fun y=>lt x y=false) O (fun v v' h g=>O.tr v' v x h g) (by
    rcases h4 with h|h
    ·exact .inl (by rw[h];rfl)
    ·exact .inr h)
   rwa[WF] at this
  have hs:nr lt (f++x::i):=by
   refine lf.2 ⟨d.1,W0.2 ⟨fun y hy=>O.asym _ _ (E y hy),d.2.1⟩,fun a ha b hb=> ?_⟩
   rcases VK.1 hb with rfl|hb
   ·exact h5 a ha
   ·exact d.2.2 a ha b hb
  have s8:SP lt (P++[x]) (f++x::i):=by
   rw[h1,Vy]
   exact(SP.refl lt f).app (SP.swap O (fun u hu v hv=>by rw[V1.1 hv];exact E u hu))
  have e:∀ y∈(f++x::i)++T,Q y:=by
   intro y hy
   rcases VM.1 hy with h|h
   ·rcases VM.1 (s8.1.mem_iff.2 h) with h|h
    ·exact hQ y (Wk _ h)
    ·exact hQ y (by rw[V1.1 h];simp)
   ·exact hQ y (by simp[h])
  obtain⟨W,g1,g2,g3⟩:=ih (f++x::i) e hs (by rw[show(f++x::i).length=P.length+1 by rw[h1];simp;omega];omega)
  have l1:(f++x::i).length=P.length+1:=by rw[h1];simp;omega
  refine⟨W, ?_,g2, ?_⟩
  ·rw[l1] at g1
   rw[ly (s':=(A++(f++x::i)++T++B,((A.length+(P.length+1):Nat):Int)))]
   ·rw[show A.length+P.length+(x::T).length=A.length+(P.length+1)+T.length by simp;omega]
    exact g1
   ·have w1:IntKind.i64.wrap (((A.length+P.length:Nat):Int)+1)=((A.length+(P.length+1):Nat):Int):=by rw[bk _ oM oM];omega
    have hd:decide (((A.length+P.length:Nat):Int)<((A.length+P.length+(x::T).length:Nat):Int))=true:=by simp;omega
    unfold OI
    dsimp only
    rw[hd,w1,show A++P++x::T++B=A++P++x::(T++B) by simp,h2]
    simp[bZ]
  ·refine SP.trans ?_ g3
   rw[show P++x::T=(P++[x])++T by simp]
   exact s8.app (SP.refl lt T)
theorem KZ {Q:α->Prop} {c:α->α->Option Int} {lt:α->α->Bool} (O:ss lt) (hc:KY Q c lt) (A U B:List α) (hQ:∀ u∈U,Q u) (a b:Int) (ha:a=(A.length:Nat)) (hb:b=((A.length+U.length:Nat):Int)) (hl:A.length+U.length<=1152921504606846976):
  ∃ W,Ma c (A++U++B) a b=some ((),A++W++B)/\nr lt W/\SP lt U W:=by
 subst ha hb
 unfold Ma
 have w1:IntKind.i64.wrap ((A.length:Int)+1)=((A.length+1:Nat):Int):=by rw[bk _ oM oM];omega
 cases U with
 |nil=>
  refine⟨[], ?_,List.Pairwise.nil,SP.refl _ _⟩
  rw[w1,gD (a:= .inl (A++[]++B,((A.length+1:Nat):Int)))]
  ·rfl
  ·unfold OI
   have hd:decide (((A.length+1:Nat):Int)<((A.length+([]:List α).length:Nat):Int))=false:=by simp;omega
   dsimp only
   rw[hd]
   rfl
 |cons u T=>
  obtain⟨W,g1,g2,g3⟩:=Mc O hc A B T [u] hQ (Qu lt u) (by simp at hl⊢;omega)
  refine⟨W, ?_,g2,g3⟩
  rw[w1,show A++u::T++B=A++[u]++T++B by simp,show A.length+1=A.length+[u].length from rfl,show A.length+(u::T).length=A.length+[u].length+T.length by simp;omega,g1]
  rfl
def K0 (c:α->α->Option Int) (L:List α) (i j:Int) (k:Int->Option R):Option R:=
 (aV L i).bind fun _=>L[i.toNat]?.bind fun e=>(aV L j).bind fun _=>L[j.toNat]?.bind fun e2=>(c e e2).bind k
theorem Eo {Q:α->Prop} {c:α->α->Option Int} {lt:α->α->Bool} (hc:KY Q c lt) {L:List α} {i j:Nat} {x y:α} (hx:Q x) (hy:Q y) (hi:L[i]?=some x) (hj:L[j]?=some y):∃ z,(∀ {R:Type} (k:Int->Option R),K0 c L (i:Int) (j:Int) k=k z)/\decide (z<0)=lt x y:=by
 obtain⟨z,hz,d⟩:=hc x y hx hy
 refine⟨z,fun k=> ?_,d⟩
 unfold K0
 simp only[am,Ww,hi,hj,hz,Vh]
def q8 (i j:Int):Int:=IntKind.i64.wrap (IntKind.u64.wrap (IntKind.i64.wrap (i+j))/2)
theorem Cr (i j:Nat) (h:i+j<=4611686018427387904):q8 (i:Int) (j:Int)=(((i+j)/2:Nat):Int):=by
 unfold q8
 rw[bk ((i:Int)+(j:Int)) oM oM,show((i:Int)+(j:Int))=((i+j:Nat):Int) by omega,IntKind.wrap_u64]
 rw[bk _ oM oM]
 omega
def Mr (c:α->α->Option Int) (L:List α) (I J:Int->Int) (T:Int->Bool):Int×Int->Option ((Int×Int)⊕((Int×Int)⊕R)):=fun s=>
 bif decide (s.1<s.2) then ew (S7 .u64 1) (K0 c L (I (q8 s.1 s.2)) (J (q8 s.1 s.2)) fun x=>bif T x then some (.inl (IntKind.i64.wrap (q8 s.1 s.2+1),s.2)) else some (.inl (s.1,q8 s.1 s.2))) else gr (some (.inl (s.1,s.2)))
theorem J1 {c:α->α->Option Int} {L:List α} {I J:Int->Int} {T:Int->Bool} (q:Nat->Bool) (lo hi:Nat) (hh:hi<=1152921504606846976) (hq:∀ h,lo<=h->h<hi->∃ z,(∀ {R:Type} (k:Int->Option R),K0 c L (I (h:Int)) (J (h:Int)) k=k z)/\T z=q h):∀ (n i j:Nat),j - i<=n->lo<=i->i<=j->j<=hi->(i=lo\/q (i - 1)=true)->(j=hi\/q j=false)->
  ∃ r,lo<=r/\r<=hi/\bn (Mr (R:=R) c L I J T) ((i:Int),(j:Int))=some (.inl ((r:Int),(r:Int)))/\(r=lo\/q (r - 1)=true)/\(r=hi\/q r=false):=by
 intro n
 induction n with
 |zero=>
  intro i j hn h1 h2 E h4 h5
  have:i=j:=by omega
  subst this
  refine⟨i,h1,E,gD ?_,h4,h5⟩
  unfold Mr
  simp[gr]
 |succ n ih=>
  intro i j hn h1 h2 E h4 h5
  rcases W1 h2 with h9|rfl
  ·have hd:decide ((i:Int)<(j:Int))=true:=by simp;omega
   have Z:=Cr i j oM
   obtain⟨z,hz,d⟩:=hq ((i+j)/2) oM oM
   have w1:IntKind.i64.wrap ((((i+j)/2:Nat):Int)+1)=(((i+j)/2+1:Nat):Int):=aW _ oM
   have C:Mr (R:=R) c L I J T ((i:Int),(j:Int))=bif q ((i+j)/2) then some (.inl ((((i+j)/2+1:Nat):Int),(j:Int))) else some (.inl ((i:Int),(((i+j)/2:Nat):Int))):=by
    unfold Mr
    dsimp only
    rw[hd,Z,w1]
    dsimp only[cond_true]
    rw[hz,d]
    rfl
   cases t:q ((i+j)/2) with
   |true=>
    rw[t] at C
    obtain⟨r,g1,g2,g3,g4⟩:=ih ((i+j)/2+1) j oM oM oM E (.inr (by simpa using t)) h5
    exact⟨r,g1,g2,by rw[ly C];exact g3,g4⟩
   |false=>
    rw[t] at C
    obtain⟨r,g1,g2,g3,g4⟩:=ih i ((i+j)/2) oM h1 oM oM h4 (.inr t)
    exact⟨r,g1,g2,by rw[ly C];exact g3,g4⟩
  ·refine⟨i,h1,E,gD ?_,h4,h5⟩
   unfold Mr
   simp[gr]
def TV (i:Int):List α×Int->Option ((List α×Int)⊕((List α×Int)⊕(Unit×List α))):=fun s=>
 bif decide (s.2<IntKind.i64.wrap (i - 1)) then IK s.1 s.2 (IntKind.i64.wrap (s.2+1)) (fun d=>some (.inl (d,IntKind.i64.wrap (s.2+1)))) else gr (some (.inl (s.1,s.2)))
theorem OJ (x:α) (B:List α):∀ (V A:List α) (i:Nat),A.length+V.length<=1152921504606846976->i=A.length+V.length+1->bn (TV (i:Int)) (A++x::V++B,(A.length:Int))=some (.inl (A++V++x::B,((i - 1:Nat):Int))):=by
 intro V
 induction V with
 |nil=>
  intro A i hb hi
  subst hi
  have w:IntKind.i64.wrap (((A.length+([]:List α).length+1:Nat):Int) - 1)=(A.length:Int):=by
   rw[Vp] at *
   rw[bk _ oM oM];omega
  refine gD ?_
  unfold TV
  dsimp only
  rw[w]
  simp[gr]
 |cons v V ih=>
  intro A i hb hi
  simp only[Vk] at hb hi
  have w:IntKind.i64.wrap ((i:Int) - 1)=((A.length+V.length+1:Nat):Int):=by rw[bk _ oM oM];omega
  have hd:decide ((A.length:Int)<((A.length+V.length+1:Nat):Int))=true:=by simp;omega
  have w2:IntKind.i64.wrap ((A.length:Int)+1)=((A.length+1+([]:List α).length:Nat):Int):=by rw[bk _ oM oM];simp
  rw[ly (s':=((A++[v])++x::V++B,((A++[v]).length:Int)))]
  ·rw[ih (A++[v]) i oT oT]
   simp
  ·unfold TV
   dsimp only
   rw[w,hd,w2]
   dsimp only[cond_true]
   rw[show A++x::v::V++B=A++x::([]++v::(V++B)) by simp,OE]
   simp
def S_ (i:Int):List α×Int->Option ((List α×Int)⊕((List α×Int)⊕(Unit×List α))):=fun s=>
 bif decide (i<s.2) then IK s.1 s.2 (IntKind.i64.wrap (s.2 - 1)) (fun d=>some (.inl (d,IntKind.i64.wrap (s.2 - 1)))) else gr (some (.inl (s.1,s.2)))
theorem OK (y:α) (A:List α):∀ (n:Nat) (U B:List α),U.length<=n->A.length+U.length<=1152921504606846976->bn (S_ (A.length:Int)) (A++U++y::B,((A.length+U.length:Nat):Int))=some (.inl (A++y::U++B,(A.length:Int))):=by
 intro n
 induction n with
 |zero=>
  intro U B hn hb
  have:U=[]:=Vx.1 oM
  subst this
  refine gD ?_
  unfold S_
  simp[gr]
 |succ n ih=>
  intro U B hn hb
  rcases WW U with rfl|⟨Q,u,rfl⟩
  ·refine gD ?_
   unfold S_
   simp[gr]
  ·rw[WX] at hn hb⊢
   simp only[Vl,Vk,Vp] at hn hb
   have hd:decide ((A.length:Int)<((A.length+(Q++[u]).length:Nat):Int))=true:=by simp;omega
   have w1:IntKind.i64.wrap (((A.length+(Q++[u]).length:Nat):Int) - 1)=(((A++Q).length:Nat):Int):=by rw[bk _ oT oT];simp;omega
   rw[ly (s':=(A++Q++y::(u::B),((A.length+Q.length:Nat):Int)))]
   ·rw[ih Q (u::B) oM oM]
    simp
   ·unfold S_
    dsimp only
    rw[hd,w1,show A++(Q++[u])++y::B=(A++Q)++u::([]++y::B) by simp,show A.length+(Q++[u]).length=(A++Q).length+1+([]:List α).length by simp;omega]
    dsimp only[cond_true]
    rw[OG]
    simp
end
end
noncomputable section
variable {n:Nat}
section
variable {α:Type}
def K1 (d:List α->Int->Int->Int->Option (Unit×List α)) (L:List α) (a s t e b:Int):Option (Unit×List α):=
 (lD (decide (a<s)) (some (decide (s<t)))).bind fun v=>bif v then(d L a s t).bind fun y=>(lD (decide (t<e)) (some (decide (e<b)))).bind fun v=>bif v then(d y.2 t e b).bind fun y=>some ((),y.2) else some ((),y.2)
  else(lD (decide (t<e)) (some (decide (e<b)))).bind fun v=>bif v then(d L t e b).bind fun y=>some ((),y.2) else some ((),L)
def OL (d:List α->Int->Int->Int->Option (Unit×List α)) (L:List α) (a m b:Int):Int×Int->Option (Unit×List α):=fun s=>
 (lD (decide (s.1<m)) (some (decide (m<IntKind.i64.wrap (IntKind.i64.wrap (q8 a b+m) - s.1))))).bind fun v=>bif v then(Qv L s.1 m (IntKind.i64.wrap (IntKind.i64.wrap (q8 a b+m) - s.1))).bind fun y=>K1 d y.2 a s.1 (q8 a b) (IntKind.i64.wrap (IntKind.i64.wrap (q8 a b+m) - s.1)) b
  else K1 d L a s.1 (q8 a b) (IntKind.i64.wrap (IntKind.i64.wrap (q8 a b+m) - s.1)) b
def SR (c:α->α->Option Int) (d:List α->Int->Int->Int->Option (Unit×List α)) (L:List α) (a m b:Int):Option (Unit×List α):=
 bif decide (IntKind.i64.wrap (m - a)=1) then(bn (Mr c L (fun h=>h) (fun _=>a) (fun x=>decide (x<0))) (m,b)).bind (bZ fun s=>(bn (TV s.1) (L,a)).bind (bZ fun s=>some ((),s.1)))
 else bif decide (IntKind.i64.wrap (b - m)=1) then(bn (Mr c L (fun _=>m) (fun h=>h) (fun x=> !decide (x<0))) (a,m)).bind (bZ fun s=>(bn (S_ s.1) (L,m)).bind (bZ fun s=>some ((),s.1)))
 else ew (S7 .u64 1) (bif decide (q8 a b<m) then(bn (Mr c L (fun h=>IntKind.i64.wrap (IntKind.i64.wrap (IntKind.i64.wrap (q8 a b+m) - 1) - h)) (fun h=>h) (fun x=> !decide (x<0))) (IntKind.i64.wrap (IntKind.i64.wrap (q8 a b+m) - b),q8 a b)).bind (bZ (OL d L a m b))
  else(bn (Mr c L (fun h=>IntKind.i64.wrap (IntKind.i64.wrap (IntKind.i64.wrap (q8 a b+m) - 1) - h)) (fun h=>h) (fun x=> !decide (x<0))) (a,m)).bind (bZ (OL d L a m b)))
def Md (c:α->α->Option Int):Nat->List α->Int->Int->Int->Option (Unit×List α)
 |0=>fun _ _ _ _=>none
 |fu+1=>SR c (Md c fu)
theorem OM (A U V B:List α) (k:Nat) (h:k<U.length):(A++U++V++B)[A.length+k]?=U[k]?:=by
 rw[Vy,Vy,VP oM,show A.length+k - A.length=k by omega,V7 h]
theorem ON (A U V B:List α) (k:Nat) (h:k<V.length):(A++U++V++B)[A.length+U.length+k]?=V[k]?:=by
 rw[Vy,VP oS,Vl,show A.length+U.length+k - (A.length+U.length)=k by omega,V7 h]
def IL (Q:α->Prop) (lt:α->α->Bool) (n:Nat) (d:List α->Int->Int->Int->Option (Unit×List α)):Prop:=∀ A U V B:List α,U≠[]->V≠[]->(∀ u∈U,Q u)->(∀ v∈V,Q v)->nr lt U->nr lt V->U.length+V.length<=n->A.length+U.length+V.length+B.length<=1152921504606846976->
 ∃ W,d (A++U++V++B) ((A.length:Nat):Int) ((A.length+U.length:Nat):Int) ((A.length+U.length+V.length:Nat):Int)=some ((),A++W++B)/\nr lt W/\SP lt (U++V) W
theorem K2 (x y:Bool):lD x (some y)=some (x&&y):=by cases x<;>rfl
theorem IM {Q:α->Prop} {lt:α->α->Bool} {d:List α->Int->Int->Int->Option (Unit×List α)} (D:IL Q lt n d) (A U V B:List α) (m:∀ u∈U,Q u) (f:∀ v∈V,Q v) (hU:nr lt U) (hV:nr lt V) (hn:U.length+V.length<=n) (hb:A.length+U.length+V.length+B.length<=1152921504606846976) (k:Unit×List α->Option (Unit×List α)) (K:Option (Unit×List α)) (hK:K=k ((),A++U++V++B)):
  ∃ W,((lD (decide (((A.length:Nat):Int)<((A.length+U.length:Nat):Int))) (some (decide (((A.length+U.length:Nat):Int)<((A.length+U.length+V.length:Nat):Int))))).bind fun v=>bif v then(d (A++U++V++B) ((A.length:Nat):Int) ((A.length+U.length:Nat):Int) ((A.length+U.length+V.length:Nat):Int)).bind k else K)=k ((),A++W++B)/\nr lt W/\SP lt (U++V) W:=by
 rw[K2,Vh]
 cases U with
 |nil=>
  refine⟨V, ?_,hV,SP.refl _ _⟩
  have:decide (((A.length:Nat):Int)<((A.length+([]:List α).length:Nat):Int))=false:=by simp
  rw[this,hK];simp
 |cons u U=>
  cases V with
  |nil=>
   refine⟨u::U, ?_,hU,by simpa using SP.refl lt (u::U)⟩
   have:decide (((A.length+(u::U).length:Nat):Int)<((A.length+(u::U).length+([]:List α).length:Nat):Int))=false:=by simp
   rw[this,hK];simp
  |cons v V=>
   obtain⟨W,h1,h2⟩:=D A (u::U) (v::V) B oS oS m f hU hV hn hb
   refine⟨W, ?_,h2⟩
   have e1:decide (((A.length:Nat):Int)<((A.length+(u::U).length:Nat):Int))=true:=by simp;omega
   have e2:decide (((A.length+(u::U).length:Nat):Int)<((A.length+(u::U).length+(v::V).length:Nat):Int))=true:=by simp;omega
   rw[e1,e2,h1];rfl
theorem OO {Q:α->Prop} {lt:α->α->Bool} {d:List α->Int->Int->Int->Option (Unit×List α)} (D:IL Q lt n d) (A f j i l B:List α) (q1:∀ u∈f,Q u) (q2:∀ u∈j,Q u) (q3:∀ u∈i,Q u) (q4:∀ u∈l,Q u) (h1:nr lt f) (h2:nr lt j) (E:nr lt i) (h4:nr lt l) (J:f.length+j.length<=n) (g:i.length+l.length<=n) (hb:A.length+f.length+j.length+i.length+l.length+B.length<=1152921504606846976) (a s t e b:Int) (ha:a=(A.length:Nat)) (hs:s=((A.length+f.length:Nat):Int)) (Z:t=((A.length+f.length+j.length:Nat):Int)) (he:e=((A.length+f.length+j.length+i.length:Nat):Int)) (o:b=((A.length+f.length+j.length+i.length+l.length:Nat):Int)):
  ∃ c p,K1 d (A++f++j++i++l++B) a s t e b=some ((),A++c++p++B)/\nr lt c/\SP lt (f++j) c/\nr lt p/\SP lt (i++l) p:=by
 obtain⟨c,g1,g2,g3⟩:=IM D A f j (i++l++B) q1 q2 h1 h2 J oT (fun y=>(lD (decide (t<e)) (some (decide (e<b)))).bind fun v=>bif v then(d y.2 t e b).bind fun y=>some ((),y.2) else some ((),y.2))
  ((lD (decide (t<e)) (some (decide (e<b)))).bind fun v=>bif v then(d (A++f++j++(i++l++B)) t e b).bind fun y=>some ((),y.2) else some ((),A++f++j++(i++l++B))) rfl
 have l1:c.length=f.length+j.length:=by rw[<-g3.1.length_eq,Vl]
 obtain⟨p,k1,k2,k3⟩:=IM D (A++c) i l B q3 q4 E h4 g (by rw[Vl];omega) (fun y=>some ((),y.2)) (some ((),A++c++i++l++B)) rfl
 refine⟨c,p, ?_,g2,g3,k2,k3⟩
 unfold K1
 have e0:A++f++j++i++l++B=A++f++j++(i++l++B):=by simp
 rw[e0]
 rw[<-hs,<-Z,<-ha] at g1
 rw[g1]
 rw[show(A++c).length+i.length=A.length+f.length+j.length+i.length by rw[Vl];omega,show(A++c).length=A.length+f.length+j.length by rw[Vl];omega,<-he,<-Z,<-o] at k1
 rw[show A++c++(i++l++B)=A++c++i++l++B by simp]
 exact k1
theorem Me {lt:α->α->Bool} (O:ss lt) {U V c p:List α} {k l:Nat} (hU:nr lt U) (hV:nr lt V) (T:k=0\/V.length<=l\/∃ u v,U[k - 1]?=some u/\V[l]?=some v/\lt v u=false) (c2:l=0\/U.length<=k\/∃ u v,V[l - 1]?=some v/\U[k]?=some u/\lt v u=true) (h1:nr lt c) (h2:SP lt (U.take k++V.take l) c) (E:nr lt p) (h4:SP lt (U.drop k++V.drop l) p):nr lt (c++p)/\SP lt (U++V) (c++p):=by
 have H:∀ u∈U.take k,∀ v∈V.drop l,lt v u=false:=by
  rcases T with rfl|h|⟨u,v,g1,g2,g3⟩
  ·simp
  ·rw[WM h];simp
  ·intro n i
   have a1:lt v n=false:=ui hU (P:=fun w=>lt v w=false) O (fun w w' h g=>O.tr w' w v h g) (.inr ⟨u,g1,g3⟩) n i
   exact zQ hV (P:=fun w=>lt w n=false) (fun w w' h g=>O.tr n w w' g h) (.inr ⟨v,g2,a1⟩)
 have d2:∀ u∈U.drop k,∀ v∈V.take l,lt v u=true:=by
  rcases c2 with rfl|h|⟨u,v,g1,g2,g3⟩
  ·simp
  ·rw[WM h];simp
  ·intro n i
   have a1:lt v n=true:=zQ hU (P:=fun w=>lt v w=true) (fun w w' h g=>O.lt_right h g) (.inr ⟨u,g2,g3⟩) n i
   exact ui hV (P:=fun w=>lt w n=true) O (fun w w' h g=>O.lt_left h g) (.inr ⟨v,g1,a1⟩)
 have o:nr lt (U.take k++U.drop k):=by rwa[VH]
 have s:nr lt (V.take l++V.drop l):=by rwa[VH]
 have d:=(lf.1 o).2.2
 have f:=(lf.1 s).2.2
 refine⟨lf.2 ⟨h1,E,fun a ha b hb=> ?_⟩, ?_⟩
 ·rcases VM.1 (h2.1.symm.subset ha) with ha|ha<;>rcases VM.1 (h4.1.symm.subset hb) with hb|hb
  ·exact d a ha b hb
  ·exact H a ha b hb
  ·exact O.asym _ _ (d2 b hb a ha)
  ·exact f a ha b hb
 ·have e:U++V=U.take k++(U.drop k++V.take l)++V.drop l:=by
   rw[<-Vy,VH,Vy,VH]
  rw[e]
  refine((SP.refl lt (U.take k)).app (SP.swap O d2)).app (SP.refl lt (V.drop l))|>.trans ?_
  rw[show U.take k++(V.take l++U.drop k)++V.drop l=(U.take k++V.take l)++(U.drop k++V.drop l) by simp]
  exact h2.app h4
theorem Mf {Q:α->Prop} {lt:α->α->Bool} (O:ss lt) {d:List α->Int->Int->Int->Option (Unit×List α)} (D:IL Q lt n d) (A U V B:List α) (m:∀ u∈U,Q u) (f:∀ v∈V,Q v) (hU:nr lt U) (hV:nr lt V) (hb:A.length+U.length+V.length+B.length<=1152921504606846976) (r k l:Nat) (hk:r=A.length+k) (g:k<=U.length) (M:l<=V.length) (r2:A.length+k+l=(A.length+(A.length+U.length+V.length))/2) (hn:U.length+V.length<=2 * n) (T:k=0\/V.length<=l\/∃ u v,U[k - 1]?=some u/\V[l]?=some v/\lt v u=false) (c2:l=0\/U.length<=k\/∃ u v,V[l - 1]?=some v/\U[k]?=some u/\lt v u=true):
  ∃ W,OL d (A++U++V++B) ((A.length:Nat):Int) ((A.length+U.length:Nat):Int) ((A.length+U.length+V.length:Nat):Int) ((r:Int),(r:Int))=some ((),A++W++B)/\nr lt W/\SP lt (U++V) W:=by
 have i:(U.take k).length=k:=by rw[VA];omega
 have b:(U.drop k).length=U.length - k:=Wd
 have e:(V.take l).length=l:=by rw[VA];omega
 have q:(V.drop l).length=V.length - l:=Wd
 have o:nr lt (U.take k++U.drop k):=by rwa[VH]
 have s:nr lt (V.take l++V.drop l):=by rwa[VH]
 have a:q8 ((A.length:Nat):Int) ((A.length+U.length+V.length:Nat):Int)=((A.length+k+l:Nat):Int):=by rw[Cr _ _ oM,r2]
 have t:IntKind.i64.wrap (IntKind.i64.wrap (((A.length+k+l:Nat):Int)+((A.length+U.length:Nat):Int)) - (r:Int))=((A.length+U.length+l:Nat):Int):=by
  rw[bk (((A.length+k+l:Nat):Int)+((A.length+U.length:Nat):Int)) oM oM,bk _ oM oM];omega
 obtain⟨c,p,j,t2,t3,t4,t5⟩:=OO D A (U.take k) (V.take l) (U.drop k) (V.drop l) B (fun u h=>m u (VU h)) (fun u h=>f u (VU h)) (fun u h=>m u (WD h)) (fun u h=>f u (WD h)) (lf.1 o).1 (lf.1 s).1 (lf.1 o).2.1 (lf.1 s).2.1 oM oM oM
  ((A.length:Nat):Int) (r:Int) ((A.length+k+l:Nat):Int) ((A.length+U.length+l:Nat):Int) ((A.length+U.length+V.length:Nat):Int) rfl oM oM oM oM
 obtain⟨m1,m2⟩:=Me O hU hV T c2 t2 t3 t4 t5
 refine⟨c++p, ?_,m1,m2⟩
 unfold OL
 dsimp only
 rw[a,t,K2,Vh,show A++(c++p)++B=A++c++p++B by simp,<-j]
 have e0:A++U++V++B=(A++U.take k)++U.drop k++V.take l++(V.drop l++B):=by
  have w:A++U++V++B=A++(U.take k++U.drop k)++(V.take l++V.drop l)++B:=by rw[VH,VH]
  rw[w];simp only[Vy]
 by_cases hc:k<U.length/\0<l
 ·have e1:decide ((r:Int)<((A.length+U.length:Nat):Int))=true:=by simp;omega
  have e2:decide (((A.length+U.length:Nat):Int)<((A.length+U.length+l:Nat):Int))=true:=by simp;omega
  rw[e1,e2,e0,Qw (A++U.take k) (U.drop k) (V.take l) (V.drop l++B) _ _ _ (by intro h0;rw[h0] at b;simp at b;omega) (by intro h0;rw[h0] at e;simp at e;omega) (by simp only[Vl];omega) (by rw[Vl];omega) (by rw[Vl];omega) (by rw[Vl];omega)]
  simp
 ·have e1:(decide ((r:Int)<((A.length+U.length:Nat):Int))&&decide (((A.length+U.length:Nat):Int)<((A.length+U.length+l:Nat):Int)))=false:=by
   rw[Bool.and_eq_false_iff,VJ,VJ];omega
  rw[e1,e0]
  have e2:(A++U.take k)++U.drop k++V.take l++(V.drop l++B)=A++U.take k++V.take l++U.drop k++V.drop l++B:=by
   rcases Xg l with rfl|hl
   ·simp
   ·rw[WM (show U.length<=k by omega)];simp only[Vy,VC]
  rw[e2];rfl
end
end
section
variable {α:Type}
theorem OP {Q:α->Prop} {c:α->α->Option Int} {lt:α->α->Bool} (O:ss lt) (hc:KY Q c lt) {n:Nat} {d:List α->Int->Int->Int->Option (Unit×List α)} (D:IL Q lt n d) (A U V B:List α) (m:∀ u∈U,Q u) (f:∀ v∈V,Q v) (hU:nr lt U) (hV:nr lt V) (hb:A.length+U.length+V.length+B.length<=1152921504606846976) (hn:U.length+V.length<=2 * n) (lo hi t:Nat) (b:t=(A.length+(A.length+U.length+V.length))/2) (h1:A.length<=lo) (h2:lo<=hi) (E:hi<=A.length+U.length) (h4:hi<=t) (h5:t+(A.length+U.length)<=A.length+U.length+V.length+lo) (h6:lo=A.length\/t+(A.length+U.length)=A.length+U.length+V.length+lo) (h7:hi=A.length+U.length\/hi=t):
  ∃ W,(bn (Mr c (A++U++V++B) (fun h=>IntKind.i64.wrap (IntKind.i64.wrap (IntKind.i64.wrap (q8 ((A.length:Nat):Int) ((A.length+U.length+V.length:Nat):Int)+((A.length+U.length:Nat):Int)) - 1) - h)) (fun h=>h) (fun x=> !decide (x<0))) ((lo:Int),(hi:Int))).bind (bZ (OL d (A++U++V++B) ((A.length:Nat):Int) ((A.length+U.length:Nat):Int) ((A.length+U.length+V.length:Nat):Int)))=some ((),A++W++B)/\nr lt W/\SP lt (U++V) W:=by
 have a:q8 ((A.length:Nat):Int) ((A.length+U.length+V.length:Nat):Int)=((t:Nat):Int):=by rw[Cr _ _ oM,b]
 let q:Nat->Bool:=fun h=>match U[h - A.length]?,V[t - 1 - h]? with
  |some u,some v=> !lt v u
  |_,_=>true
 have hx:∀ h,lo<=h->h<hi->∃ u v,U[h - A.length]?=some u/\V[t - 1 - h]?=some v/\q h= !lt v u:=by
  intro h g1 g2
  have a1:h - A.length<U.length:=by omega
  have a2:t - 1 - h<V.length:=by omega
  refine⟨_,_,Vu a1,Vu a2, ?_⟩
  simp only[q,Vu a1,Vu a2]
 obtain⟨r,r1,r2,r3,r4,r5⟩:=J1 (R:=Unit×List α) (c:=c) (L:=A++U++V++B) (I:=fun h=>IntKind.i64.wrap (IntKind.i64.wrap (IntKind.i64.wrap (q8 ((A.length:Nat):Int) ((A.length+U.length+V.length:Nat):Int)+((A.length+U.length:Nat):Int)) - 1) - h)) (J:=fun h=>h) (T:=fun x=> !decide (x<0)) q lo hi oM (by
  intro h g1 g2
  obtain⟨u,v,e1,e2,e3⟩:=hx h g1 g2
  have b1:=OM A U V B (h - A.length) oM
  have b2:=ON A U V B (t - 1 - h) oM
  rw[e1] at b1
  rw[e2] at b2
  obtain⟨z,N,z2⟩:=Eo hc (f v (Vq e2)) (m u (Vq e1)) b2 b1
  refine⟨z,fun{R} k=> ?_,by rw[e3,<-z2]⟩
  rw[a,bk (((t:Nat):Int)+((A.length+U.length:Nat):Int)) oM oM,bk (((t:Nat):Int)+((A.length+U.length:Nat):Int) - 1) oM oM,bk _ oM oM,
   show(((t:Nat):Int)+((A.length+U.length:Nat):Int) - 1 - (h:Int))=((A.length+U.length+(t - 1 - h):Nat):Int) by omega,show(h:Int)=((A.length+(h - A.length):Nat):Int) by omega]
  exact N k) (hi - lo) lo hi oM (Vs _) h2 (Vs _) (.inl rfl) (.inl rfl)
 rw[r3]
 refine Mf O D A U V B m f hU hV hb r (r - A.length) (t - r) oM oM oM oM hn ?_ ?_
 ·rcases r4 with r4|r4
  ·rcases h6 with h6|h6
   ·exact .inl oM
   ·exact .inr (.inl oM)
  ·rcases W1 r1 with r1|r1
   ·obtain⟨u,v,e1,e2,e3⟩:=hx (r - 1) oM oM
    refine .inr (.inr ⟨u,v, ?_, ?_, ?_⟩)
    ·rw[show r - A.length - 1=r - 1 - A.length by omega];exact e1
    ·rw[show t - r=t - 1 - (r - 1) by omega];exact e2
    ·rw[e3] at r4;simpa using r4
   ·rcases h6 with h6|h6
    ·exact .inl oM
    ·exact .inr (.inl oM)
 ·rcases r5 with r5|r5
  ·rcases h7 with h7|h7
   ·exact .inr (.inl oM)
   ·exact .inl oM
  ·rcases W1 r2 with r2|r2
   ·obtain⟨u,v,e1,e2,e3⟩:=hx r oM oM
    refine .inr (.inr ⟨u,v, ?_,e1, ?_⟩)
    ·rw[show t - r - 1=t - 1 - r by omega];exact e2
    ·rw[e3] at r5;simpa using r5
   ·rcases h7 with h7|h7
    ·exact .inr (.inl oM)
    ·exact .inl oM
theorem Qx {Q:α->Prop} {c:α->α->Option Int} {lt:α->α->Bool} (O:ss lt) (hc:KY Q c lt) (A V B:List α) (x:α) (qx:Q x) (f:∀ v∈V,Q v) (hV:nr lt V) (hb:A.length+V.length+B.length+1<=1152921504606846976):
  ∃ W,(bn (Mr c (A++[x]++V++B) (fun h=>h) (fun _=>((A.length:Nat):Int)) (fun x=>decide (x<0))) (((A.length+1:Nat):Int),((A.length+1+V.length:Nat):Int))).bind (bZ fun s=>(bn (TV s.1) ((A++[x]++V++B),((A.length:Nat):Int))).bind (bZ fun s=>some ((),s.1)))=some ((),A++W++B)/\nr lt W/\SP lt ([x]++V) W:=by
 let q:Nat->Bool:=fun h=>match V[h - (A.length+1)]? with
  |some v=>lt v x
  |_=>true
 have hx:∀ h,A.length+1<=h->h<A.length+1+V.length->∃ v,V[h - (A.length+1)]?=some v/\q h=lt v x:=by
  intro h g1 g2
  have a2:h - (A.length+1)<V.length:=by omega
  refine⟨_,Vu a2, ?_⟩
  simp only[q,Vu a2]
 obtain⟨r,r1,r2,r3,r4,r5⟩:=J1 (R:=Unit×List α) (c:=c) (L:=A++[x]++V++B) (I:=fun h=>h) (J:=fun _=>((A.length:Nat):Int)) (T:=fun x=>decide (x<0)) q (A.length+1) (A.length+1+V.length) oM (by
  intro h g1 g2
  obtain⟨v,e2,e3⟩:=hx h g1 g2
  have b1:=OM A [x] V B 0 oS
  have b2:=ON A [x] V B (h - (A.length+1)) oM
  rw[e2] at b2
  obtain⟨z,N,z2⟩:=Eo hc (f v (Vq e2)) qx b2 b1
  refine⟨z,fun{R} k=> ?_,by rw[e3,<-z2]⟩
  rw[show(h:Int)=((A.length+[x].length+(h - (A.length+1)):Nat):Int) by simp only[Vk,Vp];omega]
  exact N k) V.length (A.length+1) (A.length+1+V.length) oM (Vs _) oM (Vs _) (.inl rfl) (.inl rfl)
 have d:∀ v∈V.take (r - (A.length+1)),lt v x=true:=ui hV (P:=fun w=>lt w x=true) O (fun w w' h g=>O.lt_left h g) (by
  rcases W1 r1 with r1|r1
  ·rcases r4 with r4|r4
   ·exact .inl oM
   ·obtain⟨v,e2,e3⟩:=hx (r - 1) oM oM
    exact .inr ⟨v,by rw[show r - (A.length+1) - 1=r - 1 - (A.length+1) by omega];exact e2,by rw[<-e3];exact r4⟩
  ·exact .inl oM)
 have p:∀ v∈V.drop (r - (A.length+1)),lt v x=false:=zQ hV (P:=fun w=>lt w x=false) (fun w w' h g=>O.tr x w w' g h) (by
  rcases W1 r2 with r2|r2
  ·rcases r5 with r5|r5
   ·exact .inl oM
   ·obtain⟨v,e2,e3⟩:=hx r oM oM
    exact .inr ⟨v,e2,by rw[<-e3];exact r5⟩
  ·exact .inl oM)
 have hk:(V.take (r - (A.length+1))).length=r - (A.length+1):=by rw[VA];omega
 have e:=VH (r - (A.length+1)) V
 generalize V.take (r - (A.length+1))=j at *
 generalize V.drop (r - (A.length+1))=l at *
 subst e
 have hs:=lf.1 hV
 refine⟨j++x::l, ?_, ?_, ?_⟩
 ·rw[r3]
  simp only[Vh,bZ]
  rw[show A++[x]++(j++l)++B=A++x::j++(l++B) by simp,OJ x (l++B) j A r (by simp only[Vl] at hb;omega) oM]
  simp[bZ]
 ·exact lf.2 ⟨hs.1,W0.2 ⟨p,hs.2.1⟩,fun a ha b hb=>by
   rcases VK.1 hb with rfl|hb
   ·exact O.asym _ _ (d a ha)
   ·exact hs.2.2 a ha b hb⟩
 ·rw[<-Vy,show j++x::l=(j++[x])++l by simp]
  exact(SP.swap O (fun u hu v hv=>by rw[V1.1 hu];exact d v hv)).app (SP.refl lt l)
theorem Qy {Q:α->Prop} {c:α->α->Option Int} {lt:α->α->Bool} (O:ss lt) (hc:KY Q c lt) (A U B:List α) (y:α) (qy:Q y) (m:∀ u∈U,Q u) (hU:nr lt U) (hb:A.length+U.length+B.length+1<=1152921504606846976):
  ∃ W,(bn (Mr c (A++U++[y]++B) (fun _=>((A.length+U.length:Nat):Int)) (fun h=>h) (fun x=> !decide (x<0))) (((A.length:Nat):Int),((A.length+U.length:Nat):Int))).bind (bZ fun s=>(bn (S_ s.1) ((A++U++[y]++B),((A.length+U.length:Nat):Int))).bind (bZ fun s=>some ((),s.1)))=some ((),A++W++B)/\nr lt W/\SP lt (U++[y]) W:=by
 let q:Nat->Bool:=fun h=>match U[h - A.length]? with
  |some u=> !lt y u
  |_=>true
 have hx:∀ h,A.length<=h->h<A.length+U.length->∃ u,U[h - A.length]?=some u/\q h= !lt y u:=by
  intro h g1 g2
  have a2:h - A.length<U.length:=by omega
  refine⟨_,Vu a2, ?_⟩
  simp only[q,Vu a2]
 obtain⟨r,r1,r2,r3,r4,r5⟩:=J1 (R:=Unit×List α) (c:=c) (L:=A++U++[y]++B) (I:=fun _=>((A.length+U.length:Nat):Int)) (J:=fun h=>h) (T:=fun x=> !decide (x<0)) q A.length (A.length+U.length) oM (by
  intro h g1 g2
  obtain⟨v,e2,e3⟩:=hx h g1 g2
  have b1:=ON A U [y] B 0 oS
  have b2:=OM A U [y] B (h - A.length) oM
  rw[e2] at b2
  obtain⟨z,N,z2⟩:=Eo hc qy (m v (Vq e2)) b1 b2
  refine⟨z,fun{R} k=> ?_,by rw[e3,<-z2]⟩
  rw[show(h:Int)=((A.length+(h - A.length):Nat):Int) by omega]
  exact N k) U.length A.length (A.length+U.length) oM (Vs _) oM (Vs _) (.inl rfl) (.inl rfl)
 have d:∀ v∈U.take (r - A.length),lt y v=false:=ui hU (P:=fun w=>lt y w=false) O (fun w w' h g=>O.tr w' w y h g) (by
  rcases W1 r1 with r1|r1
  ·rcases r4 with r4|r4
   ·exact .inl oM
   ·obtain⟨v,e2,e3⟩:=hx (r - 1) oM oM
    exact .inr ⟨v,by rw[show r - A.length - 1=r - 1 - A.length by omega];exact e2,by rw[e3] at r4;simpa using r4⟩
  ·exact .inl oM)
 have p:∀ v∈U.drop (r - A.length),lt y v=true:=zQ hU (P:=fun w=>lt y w=true) (fun w w' h g=>O.lt_right h g) (by
  rcases W1 r2 with r2|r2
  ·rcases r5 with r5|r5
   ·exact .inl oM
   ·obtain⟨v,e2,e3⟩:=hx r oM oM
    exact .inr ⟨v,e2,by rw[e3] at r5;simpa using r5⟩
  ·exact .inl oM)
 have hk:(U.take (r - A.length)).length=r - A.length:=by rw[VA];omega
 have e:=VH (r - A.length) U
 generalize U.take (r - A.length)=f at *
 generalize U.drop (r - A.length)=i at *
 subst e
 have hs:=lf.1 hU
 refine⟨f++y::i, ?_, ?_, ?_⟩
 ·rw[r3]
  simp only[Vh,bZ]
  have:=OK y (A++f) i.length i B (Vs _) (by simp only[Vl] at hb⊢;omega)
  rw[show A++(f++i)++[y]++B=A++f++i++y::B by simp,show A.length+(f++i).length=(A++f).length+i.length by simp;omega,show r=(A++f).length by rw[Vl];omega,this]
  simp[bZ]
 ·exact lf.2 ⟨hs.1,W0.2 ⟨fun v hv=>O.asym _ _ (p v hv),hs.2.1⟩,fun a ha b hb=>by
   rcases VK.1 hb with rfl|hb
   ·exact d a ha
   ·exact hs.2.2 a ha b hb⟩
 ·rw[Vy]
  exact(SP.refl lt f).app (SP.swap O (fun u hu v hv=>by rw[V1.1 hv];exact p u hu))
theorem Qz {Q:α->Prop} {c:α->α->Option Int} {lt:α->α->Bool} (O:ss lt) (hc:KY Q c lt):∀ fu,IL Q lt (2^fu) (Md c fu):=by
 intro fu
 induction fu with
 |zero=>
  intro A U V B hU hV _ _ _ _ hn _
  have:=WI.2 hU
  have:=WI.2 hV
  simp at hn;omega
 |succ fu ih=>
  intro A U V B hU hV m f o s hn hb
  have r:=WI.2 hU
  have t:=WI.2 hV
  rw[Nat.pow_succ] at hn
  have w1:IntKind.i64.wrap (((A.length+U.length:Nat):Int) - ((A.length:Nat):Int))=((U.length:Nat):Int):=by rw[bk _ oM oM];omega
  have w2:IntKind.i64.wrap (((A.length+U.length+V.length:Nat):Int) - ((A.length+U.length:Nat):Int))=((V.length:Nat):Int):=by rw[bk _ oM oM];omega
  show∃ W,SR c (Md c fu) _ _ _ _=_/\_
  unfold SR
  rw[w1,w2]
  rcases VR 1 U.length with h1|h1
  ·have H:decide (((U.length:Nat):Int)=1)=false:=by simp;omega
   rw[H]
   rcases VR 1 V.length with h2|h2
   ·have d2:decide (((V.length:Nat):Int)=1)=false:=by simp;omega
    rw[d2]
    have a:q8 ((A.length:Nat):Int) ((A.length+U.length+V.length:Nat):Int)=(((A.length+(A.length+U.length+V.length))/2:Nat):Int):=Cr _ _ oM
    show∃ W,(bif decide _ then _ else _)=_/\_
    by_cases Z:(A.length+(A.length+U.length+V.length))/2<A.length+U.length
    ·have q:decide (q8 ((A.length:Nat):Int) ((A.length+U.length+V.length:Nat):Int)<((A.length+U.length:Nat):Int))=true:=by rw[a];simp only[Vv];omega
     rw[q]
     dsimp only[cond_true]
     have w3:IntKind.i64.wrap (IntKind.i64.wrap (q8 ((A.length:Nat):Int) ((A.length+U.length+V.length:Nat):Int)+((A.length+U.length:Nat):Int)) - ((A.length+U.length+V.length:Nat):Int))=(((A.length+(A.length+U.length+V.length))/2+(A.length+U.length) - (A.length+U.length+V.length):Nat):Int):=by
      rw[a,bk ((((A.length+(A.length+U.length+V.length))/2:Nat):Int)+((A.length+U.length:Nat):Int)) oM oM,bk _ oM oM];omega
     have:=OP O hc ih A U V B m f o s hb oM ((A.length+(A.length+U.length+V.length))/2+(A.length+U.length) - (A.length+U.length+V.length)) ((A.length+(A.length+U.length+V.length))/2) ((A.length+(A.length+U.length+V.length))/2) rfl oM oM oM oM oM (.inr oM) (.inr rfl)
     rw[w3]
     rw[<-a] at this
     exact this
    ·have q:decide (q8 ((A.length:Nat):Int) ((A.length+U.length+V.length:Nat):Int)<((A.length+U.length:Nat):Int))=false:=by rw[a];simp only[VJ];omega
     rw[q]
     dsimp only[cond_false]
     exact OP O hc ih A U V B m f o s hb oM A.length (A.length+U.length) ((A.length+(A.length+U.length+V.length))/2) rfl oM oM oM oM oM (.inl rfl) (.inl rfl)
   ·have hv:V.length=1:=by omega
    have d2:decide (((V.length:Nat):Int)=1)=true:=by rw[hv];rfl
    rw[d2]
    dsimp only[cond_true,cond_false]
    match V,hv with
    |[y],_=>exact Qy O hc A U B y (f y oS) m o (by simp at hb;omega)
  ·have hu:U.length=1:=by omega
   have H:decide (((U.length:Nat):Int)=1)=true:=by rw[hu];rfl
   rw[H]
   dsimp only[cond_true]
   match U,hu with
   |[x],_=>exact Qx O hc A V B x (m x oS) f s (by simp at hb;omega)
end
noncomputable section
variable {bs fu:Nat}
section
variable {α:Type}
inductive B9 (lt:α->α->Bool) (bs:Nat):List α->Prop
 |last {U:List α}:U.length<=bs->nr lt U->B9 lt bs U
 |cons {U L:List α}:U.length=bs->nr lt U->B9 lt bs L->B9 lt bs (U++L)
theorem B9.split {lt:α->α->Bool} {T:List α} (h:B9 lt bs T) (hl:bs<=T.length):∃ U L,T=U++L/\U.length=bs/\nr lt U/\B9 lt bs L:=by
 cases h with
 |last h1 h2=>exact⟨T,[],by simp,by omega,h2,.last oS List.Pairwise.nil⟩
 |cons h1 h2 E=>exact⟨_,_,rfl,h1,h2,E⟩
theorem B9.one {lt:α->α->Bool} {T:List α} (h:B9 lt bs T) (hl:T.length<=bs):nr lt T:=by
 cases h with
 |last h1 h2=>exact h2
 | @cons U L h1 h2 E=>
  rw[Vl] at hl
  have:L=[]:=Vx.1 oM
  rw[this,VL];exact h2
def QA (c:α->α->Option Int) (n:Int):List α×Int×Int->Option ((List α×Int×Int)⊕((List α×Int×Int)⊕(Unit×List α))):=fun s=>
 bif decide (s.2.2<=n) then(Ma c s.1 s.2.1 s.2.2).bind fun y=>some (.inl (y.2,s.2.2,IntKind.i64.wrap (s.2.2+20))) else gr (some (.inl (s.1,s.2.1,s.2.2)))
def QB (c:α->α->Option Int) (fu:Nat) (n bs:Int):List α×Int×Int->Option ((List α×Int×Int)⊕((List α×Int×Int)⊕((List α×Int)⊕((List α×Int)⊕(Unit×List α))))):=fun t=>
 bif decide (t.2.2<=n) then(Md c fu t.1 t.2.1 (IntKind.i64.wrap (t.2.1+bs)) t.2.2).bind fun y=>some (.inl (y.2,t.2.2,IntKind.i64.wrap (t.2.2+IntKind.i64.wrap (2 * bs)))) else gr (some (.inl (t.1,t.2.1,t.2.2)))
def SS (c:α->α->Option Int) (fu:Nat) (n bs:Int):List α×Int×Int->Option ((List α×Int)⊕((List α×Int)⊕(Unit×List α))):=fun t=>
 bif decide (IntKind.i64.wrap (t.2.1+bs)<n) then(Md c fu t.1 t.2.1 (IntKind.i64.wrap (t.2.1+bs)) n).bind fun y=>some (.inl (y.2,IntKind.i64.wrap (bs * 2))) else some (.inl (t.1,IntKind.i64.wrap (bs * 2)))
def Mg (c:α->α->Option Int) (fu:Nat) (n:Int):List α×Int->Option ((List α×Int)⊕((List α×Int)⊕(Unit×List α))):=fun s=>
 bif decide (s.2<n) then(bn (QB c fu n s.2) (s.1,0,IntKind.i64.wrap (2 * s.2))).bind (bZ (SS c fu n s.2)) else gr (some (.inl (s.1,s.2)))
def TW (c:α->α->Option Int) (fu:Nat) (L:List α) (n:Int):Option (Unit×List α):=
 (bn (QA c n) (L,0,20)).bind (bZ fun s=>(Ma c s.1 s.2.1 n).bind fun y=>(bn (Mg c fu n) (y.2,20)).bind (bZ fun s=>some ((),s.1)))
theorem Mh {Q:α->Prop} {c:α->α->Option Int} {lt:α->α->Bool} (O:ss lt) (hc:KY Q c lt) (K:List α->Option (Unit×List α)):∀ (k:Nat) (D T:List α) (n:Nat),(∀ x∈T,Q x)->T.length<=k->n=D.length+T.length->n<=137438953472->
  ∃ b,(bn (QA c (n:Int)) (D++T,((D.length:Nat):Int),((D.length+20:Nat):Int))).bind (bZ fun s=>(Ma c s.1 s.2.1 (n:Int)).bind fun y=>K y.2)=K (D++b)/\B9 lt 20 b/\SP lt T b:=by
 intro k
 induction k using Nat.strongRecOn with
 |ind k ih=>
  intro D T n hQ hk hn hb
  rcases VR T.length 20 with h|h
  ·have hd:decide (((D.length+20:Nat):Int)<=(n:Int))=false:=by simp;omega
   obtain⟨W,w1,w2,w3⟩:=KZ O hc D T [] hQ ((D.length:Nat):Int) (n:Int) rfl oM oM
   refine⟨W, ?_,.last (by rw[<-w3.1.length_eq];omega) w2,w3⟩
   rw[gD (a:= .inl (D++T,((D.length:Nat):Int),((D.length+20:Nat):Int)))]
   ·simp only[VL] at w1
    simp only[Vh,bZ,w1]
   ·unfold QA
    dsimp only
    rw[hd];rfl
  ·have hd:decide (((D.length+20:Nat):Int)<=(n:Int))=true:=by simp;omega
   have e:=VH 20 T
   have l1:(T.take 20).length=20:=by rw[VA];omega
   have l2:(T.drop 20).length=T.length - 20:=Wd
   generalize T.take 20=U at e l1
   generalize T.drop 20=f at e l2
   subst e
   obtain⟨W,w1,w2,w3⟩:=KZ O hc D U f (fun x hx=>hQ x (Wk _ hx)) ((D.length:Nat):Int) ((D.length+20:Nat):Int) rfl (by rw[l1]) oM
   have d:W.length=20:=by rw[<-w3.1.length_eq,l1]
   obtain⟨b,j,t2,t3⟩:=ih (k - 20) oM (D++W) f n (fun x hx=>hQ x (List.mem_append_right _ hx)) oM (by rw[Vl] at hn⊢;omega) hb
   refine⟨W++b, ?_,.cons d w2 t2,w3.app t3⟩
   rw[ly (s':=(D++W++f,(((D++W).length:Nat):Int),(((D++W).length+20:Nat):Int)))]
   ·rw[j,Vy]
   ·unfold QA
    dsimp only
    rw[hd,<-Vy,w1,bk _ oM oM,Vl,d]
    rfl
theorem Mi {Q:α->Prop} {c:α->α->Option Int} {lt:α->α->Bool} (O:ss lt) (hc:KY Q c lt) (S:137438953472<=2^fu) (bs:Nat) (e:0<bs):∀ (k:Nat) (D T:List α) (n:Nat),(∀ x∈T,Q x)->T.length<=k->n=D.length+T.length->n<=137438953472->bs<=137438953472->B9 lt bs T->
  ∃ b,(bn (QB c fu (n:Int) (bs:Int)) (D++T,((D.length:Nat):Int),((D.length+2 * bs:Nat):Int))).bind (bZ (SS c fu (n:Int) (bs:Int)))=some (.inl (D++b,((2 * bs:Nat):Int)))/\B9 lt (2 * bs) b/\SP lt T b:=by
 intro k
 induction k using Nat.strongRecOn with
 |ind k ih=>
  intro D T n hQ hk hn hb s5 hT
  have t:=Qz O hc fu
  have w5:IntKind.i64.wrap ((bs:Int) * 2)=((2 * bs:Nat):Int):=by rw[bk _ oM oM];omega
  have w6:IntKind.i64.wrap (2 * (bs:Int))=((2 * bs:Nat):Int):=by rw[bk _ oM oM];omega
  have w7:IntKind.i64.wrap (((D.length:Nat):Int)+(bs:Int))=((D.length+bs:Nat):Int):=by rw[bk _ oM oM];omega
  rcases VR T.length (2 * bs) with h|h
  ·have hd:decide (((D.length+2 * bs:Nat):Int)<=(n:Int))=false:=by simp only[VJ];omega
   rw[gD (a:= .inl (D++T,((D.length:Nat):Int),((D.length+2 * bs:Nat):Int)))]
   ·simp only[Vh,bZ]
    unfold SS
    dsimp only
    rw[w5,w7]
    rcases VR bs T.length with h2|h2
    ·have p:decide (((D.length+bs:Nat):Int)<(n:Int))=true:=by simp only[Vv];omega
     obtain⟨U,L,rfl,l1,u,b1⟩:=hT.split oM
     rw[Vl] at h h2 hn
     obtain⟨W,g1,g2,g3⟩:=t D U L [] (by intro h0;rw[h0] at l1;simp at l1;omega) (by intro h0;rw[h0] at h2;simp at h2;omega) (fun x hx=>hQ x (Wk _ hx)) (fun x hx=>hQ x (List.mem_append_right _ hx)) u (b1.one oM) oM oT
     refine⟨W, ?_,.last (by rw[<-g3.1.length_eq,Vl];omega) g2,g3⟩
     rw[p,show n=D.length+U.length+L.length by omega,<-l1]
     simp only[VL] at g1
     rw[<-Vy,g1]
     rfl
    ·have p:decide (((D.length+bs:Nat):Int)<(n:Int))=false:=by simp only[VJ];omega
     refine⟨T, ?_,.last oM (hT.one h2),SP.refl _ _⟩
     rw[p];rfl
   ·unfold QB
    dsimp only
    rw[hd];rfl
  ·have hd:decide (((D.length+2 * bs:Nat):Int)<=(n:Int))=true:=by simp only[Vv];omega
   obtain⟨U,L,rfl,l1,u,b1⟩:=hT.split oM
   rw[Vl] at h hn hk
   obtain⟨V,L,rfl,l2,s2,b2⟩:=b1.split oM
   rw[Vl] at h hn hk
   obtain⟨W,g1,g2,g3⟩:=t D U V L (by intro h0;rw[h0] at l1;simp at l1;omega) (by intro h0;rw[h0] at l2;simp at l2;omega) (fun x hx=>hQ x (by simp[hx])) (fun x hx=>hQ x (by simp[hx])) u s2 oM oM
   have d:W.length=2 * bs:=by rw[<-g3.1.length_eq,Vl];omega
   obtain⟨b,j,t2,t3⟩:=ih (k - 2 * bs) oM (D++W) L n (fun x hx=>hQ x (by simp[hx])) oM (by rw[Vl];omega) hb s5 b2
   refine⟨W++b, ?_,.cons d g2 t2, ?_⟩
   ·rw[ly (s':=(D++W++L,(((D++W).length:Nat):Int),(((D++W).length+2 * bs:Nat):Int)))]
    ·rw[j,Vy]
    ·have w8:IntKind.i64.wrap (((D.length+2 * bs:Nat):Int)+((2 * bs:Nat):Int))=((D.length+2 * bs+2 * bs:Nat):Int):=by rw[bk _ oM oM];omega
     unfold QB
     dsimp only
     rw[hd,w6,w7,w8,Vl,d]
     rw[l1,show D.length+bs+V.length=D.length+2 * bs by omega] at g1
     rw[show D++(U++(V++L))=D++U++V++L by simp,g1]
     rfl
   ·rw[<-Vy]
    exact g3.app t3
theorem Mj {Q:α->Prop} {c:α->α->Option Int} {lt:α->α->Bool} (O:ss lt) (hc:KY Q c lt) (S:137438953472<=2^fu):∀ (k:Nat) (L:List α) (bs:Nat),(∀ x∈L,Q x)->L.length - bs<=k->0<bs->L.length<=137438953472->B9 lt bs L->
  ∃ d s,bn (Mg c fu ((L.length:Nat):Int)) (L,(bs:Int))=some (.inl (d,s))/\nr lt d/\SP lt L d:=by
 intro k
 induction k using Nat.strongRecOn with
 |ind k ih=>
  intro L bs hQ hk h0 hb u
  rcases VR bs L.length with h|h
  ·have hd:decide ((bs:Int)<((L.length:Nat):Int))=true:=by simp only[Vv];omega
   have w6:IntKind.i64.wrap (2 * (bs:Int))=((2 * bs:Nat):Int):=by rw[bk _ oM oM];omega
   obtain⟨b,j,t2,t3⟩:=Mi O hc S bs h0 L.length [] L L.length hQ (Vs _) oS hb oM u
   have a:=t3.1.length_eq
   obtain⟨d,s,g1,g2,g3⟩:=ih (k - bs) oM b (2 * bs) (fun x hx=>hQ x (t3.1.mem_iff.2 hx)) oM oM oM t2
   refine⟨d,s, ?_,g2,t3.trans g3⟩
   rw[ly (s':=(b,((2 * bs:Nat):Int)))]
   ·rw[a];exact g1
   ·unfold Mg
    dsimp only
    rw[hd,w6]
    simp only[Vp,VC,VD] at j
    exact j
  ·have hd:decide ((bs:Int)<((L.length:Nat):Int))=false:=by simp only[VJ];omega
   refine⟨L,bs,gD ?_,u.one h,SP.refl _ _⟩
   unfold Mg
   dsimp only
   rw[hd];rfl
theorem QC {Q:α->Prop} {c:α->α->Option Int} {lt:α->α->Bool} (O:ss lt) (hc:KY Q c lt) (S:137438953472<=2^fu) (L:List α) (hQ:∀ x∈L,Q x) (hb:L.length<=137438953472):
  ∃ W,TW c fu L ((L.length:Nat):Int)=some ((),W)/\nr lt W/\SP lt L W:=by
 obtain⟨b,j,t2,t3⟩:=Mh O hc (fun M=>(bn (Mg c fu ((L.length:Nat):Int)) (M,20)).bind (bZ fun s=>some ((),s.1))) L.length [] L L.length hQ (Vs _) oS hb
 simp only[Vp,VC,VD] at j
 have a:=t3.1.length_eq
 obtain⟨d,s,g1,g2,g3⟩:=Mj O hc S b.length b 20 (fun x hx=>hQ x (t3.1.mem_iff.2 hx)) oM oM oM t2
 refine⟨d, ?_,g2,t3.trans g3⟩
 refine Eq.trans j ?_
 rw[<-a] at g1
 have e:bn (Mg c fu ((L.length:Nat):Int)) (b,20)=some (.inl (d,s)):=g1
 rw[e];rfl
end
end
theorem ST:137438953472<=2^FU:=by
 have h:2^37<=2^FU:=Nat.pow_le_pow_right oD (Wz oD Sl)
 exact Wz oD h
section
variable (f:FuncId) (c:List DV) (p:ah->ah->Option Int) (h:∀ a0 a1 r,p a0 a1=some r->ac Tryz.prog f ([.agg (ag a0),.agg (ag a1)]++c) (.int .i64 r))
theorem Ep (L:List ah) (x1 x2 d:Int):c3 L x1 x2 d f c p h=Em L x1 x2 d:=by
 unfold c3 wR;dsimp only
 rfl
theorem EU (L:List ah) (x1 x2 d:Int):dj L x1 x2 d f c p h=Qv L x1 x2 d:=by
 unfold dj wS;dsimp only
 simp only[Ep]
 rfl
theorem EV (L:List ah) (x1 x2:Int):cr L x1 x2 f c p h=Ma p L x1 x2:=by
 unfold cr wQ;dsimp only
 rfl
theorem EW:∀ (fu:Nat) (L:List ah) (x1 x2 d:Int),bl fu L x1 x2 d f c p h=Md p fu L x1 x2 d:=by
 intro fu
 induction fu with
 |zero=>intro L x1 x2 d;exact iP ..
 |succ fu ih=>
  intro L x1 x2 d
  rw[iR];unfold wT;dsimp only;simp only[iQ]
  simp only[EU,ih]
  rfl
theorem EX (L:List ah) (n:Int):dk L n f c p h=TW p FU L n:=by
 unfold dk wU;dsimp only
 simp only[EV,EW]
 rfl
end
theorem EY {f:FuncId} {c:List DV} {p:ah->ah->Option Int} (h:∀ a0 a1 r,p a0 a1=some r->ac Tryz.prog f ([.agg (ag a0),.agg (ag a1)]++c) (.int .i64 r)) {Q:ah->Prop} {lt:ah->ah->Bool} (O:ss lt) (hc:KY Q p lt) (L:List ah) (hQ:∀ x∈L,Q x) (hb:L.length<=137438953472):
  ∃ W,br L f c p h=some ((),W)/\nr lt W/\SP lt L W:=by
 obtain⟨W,g1,g2⟩:=QC O hc ST L hQ hb
 refine⟨W, ?_,g2⟩
 unfold br wV;dsimp only
 rw[EX,g1]
 rfl
noncomputable section
variable {a:RA} {i:Int} {lv n:Nat} {s:aa}
def CE (a:RA):RA:=match a.flevels[2]? with|none=>a|some x=>⟨a.flevels.set 2 ⟨x.fheaded,x.fref,x.fmany+1,x.frefs⟩,a.fnotes⟩
def fK (s:aa) (i:Int) (a:RA):RA:=
 if gE s.fTag=true then mu s (dK s.fTag - 1) i a else if 0<dK s.fTag then mS s (dK s.fTag - 1) i a else if a.flevels.length<3 then mR a 7 i else CE a
def hJ:List aa->Nat->RA->RA
 |[],_,a=>a
 |s::l,i,a=>hJ l (i+1) (fK s (i:Int) a)
def ya (l:List aa):List Nt:=(a8 0 (l.length:Int) (hJ l 0 ⟨[],[]⟩)).fnotes
theorem zW (s:aa):∀ (l:List aa) (i:Nat) (a:RA),hJ (l++[s]) i a=fK s ((i+l.length:Nat):Int) (hJ l i a)
 |[],i,a=>by simp[hJ]
 |x::l,i,a=>by
  show hJ (l++[s]) (i+1) _=_
  rw[zW s l (i+1),show i+1+l.length=i+(x::l).length by simp;omega]
  rfl
theorem Pe {ref:List UInt8} {L:List RO} {N:List Nt} {m:Nat} (h1:N.length<=m) (h2:∀ x∈L,0<=x.fmany/\x.fmany<=(n:Int)+1/\x.frefs.length<=n):
  (sx ref i ⟨L,N⟩).fnotes.length<=m+1/\∀ x∈(sx ref i ⟨L,N⟩).flevels,0<=x.fmany/\x.fmany<=(n:Int)+2/\x.frefs.length<=n+1:=by
 rcases WW L with rfl|⟨P,x,rfl⟩
 ·rw[vy];exact⟨by simp only;omega,by simp⟩
 ·rw[WX] at h2⊢
  rw[rr]
  refine⟨?_, ?_⟩
  ·simp only[Vl]
   unfold CC
   split<;>simp<;>omega
  ·intro y hy
   rcases VM.1 hy with hy|hy
   ·have:=h2 y (Wk _ hy);omega
   ·rw[V1.1 hy]
    have:=h2 x oS
    unfold tb
    refine⟨by simp only;omega,by simp only;omega, ?_⟩
    simp only
    split
    ·simp only[Vl,Vk,Vp];omega
    ·omega
theorem MF (f:lv<=2) (h:x_ n a):x_ (n+1) (mu s lv i a):=by
 obtain⟨b1,b2,b3⟩:=h
 have l1:(a8 lv i a).flevels.length<=lv:=by simp only[a8,VA];omega
 have o:(a8 lv i a).fnotes.length<=10 * n+3:=by simp only[a8,Vl,VE];omega
 have m1:∀ x∈(a8 lv i a).flevels,0<=x.fmany/\x.fmany<=(n:Int)+1/\x.frefs.length<=n:=fun x hx=>b3 x (VU hx)
 have A:(hH lv i (a8 lv i a)).flevels.length<=lv/\(hH lv i (a8 lv i a)).fnotes.length<=10 * n+4/\∀ x∈(hH lv i (a8 lv i a)).flevels,0<=x.fmany/\x.fmany<=(n:Int)+1/\x.frefs.length<=n:=by
  unfold hH
  split
  ·refine⟨by simp only[Vl,VE];omega,by simp only[Vl,Vk,Vp];omega,fun x hx=> ?_⟩
   rcases VM.1 hx with hx|hx
   ·exact m1 x hx
   ·rw[Xo hx];simp[rD];omega
  ·exact⟨l1,by omega,m1⟩
 unfold mu
 simp only
 generalize hH lv i (a8 lv i a)=b at A
 have g1:(ka s i b).flevels=b.flevels/\(ka s i b).fnotes.length<=10 * n+5:=by
  unfold ka
  split
  ·exact⟨rfl,by omega⟩
  ·exact⟨rfl,by simp only[mR,Vl,Vk,Vp];omega⟩
 have g2:=Pe (ref:=go s.fElements) (i:=i) (n:=n) (L:=(ka s i b).flevels) (N:=(ka s i b).fnotes) g1.2 (by rw[g1.1];exact A.2.2)
 have g3:=CD (go s.fElements) i (ka s i b)
 have hl:=A.1
 rw[g1.1] at g3
 refine⟨?_, ?_, ?_⟩
 ·simp only[Vl,Vk,Vp];omega
 ·exact Wz g2.1 oM
 ·intro x hx
  rcases VM.1 hx with hx|hx
  ·have:=g2.2 x hx;omega
  ·rw[V1.1 hx]
   refine⟨?_, ?_,by simp⟩<;>simp only<;>split<;>omega
theorem Pf (ts:List (List UInt8)) (lv:Nat) (i:Int) (x:RO):(I1 ts lv i x).length<=2:=by
 have q:∀ (c:Prop) [Decidable c] (y:Nt),(if c then([]:List Nt) else[y]).length<=1:=fun c _ y=>by split<;>simp
 unfold I1
 split
 ·split
  ·split
   ·rw[Vl]
    exact Nat.add_le_add (q _ _) (q _ _)
   ·simp
  ·simp
 ·simp
theorem MG (h:x_ n a):x_ (n+1) (mS s lv i a):=by
 obtain⟨b1,b2,b3⟩:=h
 have b:∀ x∈a.flevels,0<=x.fmany/\x.fmany<=((n+1:Nat):Int)+1/\x.frefs.length<=n+1:=fun x hx=>by have:=b3 x hx;omega
 unfold mS
 split
 ·exact⟨b1,by simp only[mR,Vl,Vk,Vp];omega,b⟩
 ·split
  ·exact⟨b1,by omega,b⟩
  ·refine⟨?_, ?_,fun x hx=>b x (VU hx)⟩
   ·rw[VA];omega
   ·have:∀ t,(if s.fElements.all dt=true then I1 (s.fElements.map firstT) lv i t else[⟨6,i⟩]).length<=2:=fun t=>by
     split
     ·exact Pf _ _ _ _
     ·simp
    simp only[a8,Vl,VE]
    have:=this ‹RO›
    omega
theorem MH (h:x_ n a):x_ (n+1) (fK s i a):=by
 unfold fK
 split
 ·refine MF ?_ h
  unfold dK;split<;>(try split)<;>(try split)<;>omega
 ·split
  ·exact MG h
  ·obtain⟨b1,b2,b3⟩:=h
   have b:∀ x∈a.flevels,0<=x.fmany/\x.fmany<=((n+1:Nat):Int)+1/\x.frefs.length<=n+1:=fun x hx=>by have:=b3 x hx;omega
   split
   ·exact⟨b1,by simp only[mR,Vl,Vk,Vp];omega,b⟩
   ·unfold CE
    split
    ·exact⟨b1,by omega,b⟩
    ·rename_i x hx
     refine⟨by rw[XI];exact b1,by simp only;omega,fun y hy=> ?_⟩
     rcases List.mem_or_eq_of_mem_set hy with hy|rfl
     ·exact b y hy
     ·have:=b3 x (Vq hx)
      simp only;omega
theorem F6:∀ (l:List aa) (i:Nat) (a:RA),x_ i a->x_ (i+l.length) (hJ l i a)
 |[],i,a,h=>h
 |s::l,i,a,h=>by
  have:=F6 l (i+1) _ (MH (s:=s) (i:=(i:Int)) h)
  rw[show i+(s::l).length=i+1+l.length by simp;omega]
  exact this
theorem U3:x_ 0 ⟨[],[]⟩:=⟨by simp,by simp,by simp⟩
def MI (l:List aa):Prop:=l.length<=2000/\∀ s∈l,vw s.fElements
theorem vz {l:List aa} (h:fJ l=0):MI l:=by
 unfold fJ at h
 split at h
 ·cases h
 ·refine⟨by omega,fun s hs=> ?_⟩
  have:=hw h s hs
  unfold xK at this
  split at this
  ·cases this
  ·split at this
   ·cases this
   ·exact⟨by omega,fun e he=>hw this e he⟩
def tE (a b:Nt):Bool:=decide (a.fSegment<b.fSegment)||(decide (a.fSegment=b.fSegment)&&decide (a.fKind<b.fKind))
theorem Kf (a b:Nt):tE a b=true↔a.fSegment<b.fSegment\/(a.fSegment=b.fSegment/\a.fKind<b.fKind):=by unfold tE;simp
theorem QO (a b:Nt):tE a b=false↔¬ (a.fSegment<b.fSegment\/(a.fSegment=b.fSegment/\a.fKind<b.fKind)):=by rw[<-Kf];simp
theorem I2:ss tE where
 asym:=fun a b h=>by rw[Kf] at h;rw[QO];omega
 tr:=fun a b c h g=>by rw[QO] at *;omega
end
variable {l:List aa}
def yQ (tag:List UInt8) (n:Nat):Nat:=if gE tag=true then dK tag else if 0<dK tag then(if n<dK tag then n else dK tag - 1) else n
def F0 (tag:List UInt8) (n:Nat):Nat:=if gE tag=true then(n - (dK tag - 1))+(if n<dK tag - 1 then 1 else 0) else if 0<dK tag then(if n<dK tag then 1 else n - dK tag) else if n<3 then 1 else 0
theorem pz {tag:List UInt8} (h:gE tag=true):0<dK tag:=by
 unfold gE at h
 simp only[V8,Vv] at h
 rcases h with(rfl|rfl)|rfl<;>decide
theorem Kb (tag:List UInt8):dK tag<=3:=by
 unfold dK;split<;>(try split)<;>(try split)<;>omega
theorem Mw (s:aa) (lv:Nat) (i:Int) (a:RA):(mu s lv i a).flevels.length=lv+1/\a.fnotes.length+(a.flevels.length - lv)+(if a.flevels.length<lv then 1 else 0)<=(mu s lv i a).fnotes.length:=by
 have h1:(hH lv i (a8 lv i a)).flevels.length=lv/\(hH lv i (a8 lv i a)).fnotes.length=a.fnotes.length+(a.flevels.length - lv)+(if a.flevels.length<lv then 1 else 0):=by
  unfold hH
  simp only[a8,VA]
  by_cases h:a.flevels.length<lv
  ·have Z:min lv a.flevels.length=a.flevels.length:=by omega
   rw[Wy (by rw[Z];exact h),Wy h]
   constructor
   ·show(a.flevels.take lv++List.replicate (lv - min lv a.flevels.length) rD).length=lv
    rw[Vl,VE,VA,Z];omega
   ·show(a.fnotes++List.replicate (a.flevels.length - lv) _++[_]).length=_
    rw[Vl,Vl,VE];rfl
  ·have Z:min lv a.flevels.length=lv:=by omega
   rw[WU (by rw[Z];omega),WU h]
   constructor
   ·show(a.flevels.take lv).length=lv
    rw[VA,Z]
   ·show(a.fnotes++List.replicate (a.flevels.length - lv) _).length=_
    rw[Vl,VE];rfl
 unfold mu
 simp only
 generalize hH lv i (a8 lv i a)=b at h1
 have h2:(ka s i b).flevels=b.flevels/\b.fnotes.length<=(ka s i b).fnotes.length:=by
  unfold ka
  split
  ·exact⟨rfl,Vs _⟩
  ·exact⟨rfl,by simp[mR]⟩
 generalize ka s i b=c at h2
 have E:c.fnotes.length<=(sx (go s.fElements) i c).fnotes.length:=by
  unfold sx
  split
  ·exact Vs _
  ·simp
 refine⟨?_,by omega⟩
 rw[Vl,CD,h2.1,h1.1]
 rfl
theorem Mx (s:aa) (lv:Nat) (i:Int) (a:RA):(mS s lv i a).flevels.length=(if a.flevels.length<=lv then a.flevels.length else lv)/\a.fnotes.length+(if a.flevels.length<=lv then 1 else a.flevels.length - (lv+1))<=(mS s lv i a).fnotes.length:=by
 unfold mS
 by_cases h:a.flevels.length<=lv
 ·rw[Wy h,Wy h,Wy h]
  simp[mR]
 ·rw[WU h,WU h,WU h]
  obtain⟨x,hx⟩:=dl (show lv<a.flevels.length by omega)
  rw[hx]
  simp only[a8,VA,Vl,VE]
  omega
theorem rC (s:aa) (i:Int) (a:RA):(fK s i a).flevels.length=yQ s.fTag a.flevels.length/\a.fnotes.length+F0 s.fTag a.flevels.length<=(fK s i a).fnotes.length:=by
 unfold fK yQ F0
 by_cases h:gE s.fTag=true
 ·have:=pz h
  rw[Wy h,Wy h,Wy h]
  obtain⟨h1,h2⟩:=Mw s (dK s.fTag - 1) i a
  exact⟨by omega,by omega⟩
 ·rw[WU h,WU h,WU h]
  by_cases g:0<dK s.fTag
  ·rw[Wy g,Wy g,Wy g]
   obtain⟨h1,h2⟩:=Mx s (dK s.fTag - 1) i a
   by_cases k:a.flevels.length<dK s.fTag
   ·rw[Wy oM] at h1 h2
    rw[Wy k,Wy k]
    exact⟨h1,h2⟩
   ·rw[WU oM] at h1 h2
    rw[WU k,WU k]
    exact⟨h1,by omega⟩
  ·rw[WU g,WU g,WU g]
   by_cases k:a.flevels.length<3
   ·rw[Wy k,Wy k]
    simp[mR]
   ·rw[WU k,WU k]
    unfold CE
    split<;>simp
theorem Ho (tag:List UInt8) (n:Nat):F0 tag n=0↔(gE tag=true/\n=dK tag - 1)\/(gE tag=false/\0<dK tag/\n=dK tag)\/(gE tag=false/\dK tag=0/\3<=n):=by
 unfold F0
 cases h:gE tag with
 |true=>
  simp only[VW]
  by_cases g:n<dK tag - 1
  ·rw[Wy g];simp;omega
  ·rw[WU g];simp;omega
 |false=>
  simp only[Vw,VQ]
  by_cases g:0<dK tag
  ·rw[Wy g]
   by_cases k:n<dK tag
   ·rw[Wy k];simp;omega
   ·rw[WU k];simp;omega
  ·rw[WU g]
   by_cases k:n<3
   ·rw[Wy k];simp;omega
   ·rw[WU k];simp;omega
theorem vt:∀ (l:List aa) (i:Nat) (a:RA),a.fnotes.length<=(hJ l i a).fnotes.length
 |[],_,_=>Vs _
 |s::l,i,a=>Wz (by have:=(rC s (i:Int) a).2;omega) (vt l (i+1) _)
theorem Cb:∀ (l m:List aa) (i:Nat) (a:RA),hJ (l++m) i a=hJ m (i+l.length) (hJ l i a)
 |[],m,i,a=>rfl
 |s::l,m,i,a=>by
  show hJ (l++m) (i+1) _=_
  rw[Cb l m,show i+1+l.length=i+(s::l).length by simp;omega]
  rfl
theorem O6 (h:0<(hJ l 0 ⟨[],[]⟩).fnotes.length):ya l≠[]:=by
 intro h0
 have:(ya l).length=0:=by rw[h0];rfl
 simp only[ya,a8,Vl] at this
 omega
theorem Va (h:ya l=[]) {g:Nat} {s:aa} (hs:l[g]?=some s) (hT:0<dK s.fTag):ya (l.take g++l.drop (g+1))≠[]:=by
 have L:=b9 hs
 have e:l=l.take g++s::l.drop (g+1):=by
  have:=WC (l:=l) (i:=g) L
  rw[(Vr.1 hs).2] at this
  rw[<-this,VH]
 have hl:(ya l).length=0:=by rw[h];rfl
 simp only[ya,a8,Vl,VE] at hl
 rw[e,Cb] at hl
 have I:(l.take g).length=g:=by rw[VA];omega
 have hu:∀ r,hJ (l.take g++r) 0 ⟨[],[]⟩=hJ r g (hJ (l.take g) 0 ⟨[],[]⟩):=fun r=>by rw[Cb,I,VD]
 rw[VD,I] at hl
 generalize hJ (l.take g) 0 ⟨[],[]⟩=a at hl hu
 have E:=Kb s.fTag
 obtain⟨k1,k2⟩:=rC s (g:Int) a
 cases D:l.drop (g+1) with
 |nil=>
  rw[D] at hl
  have f:(fK s (g:Int) a).fnotes.length+((fK s (g:Int) a).flevels.length - 0)=0:=hl
  intro h0
  have:(ya (l.take g++[])).length=0:=by rw[h0];rfl
  simp only[ya,a8,Vl,VE] at this
  rw[hu] at this
  have c:a.fnotes.length+(a.flevels.length - 0)=0:=this
  unfold yQ at k1
  unfold F0 at k2
  by_cases q:gE s.fTag=true
  ·rw[Wy q] at k1;omega
  ·rw[WU q,Wy hT] at k1 k2
   by_cases q2:a.flevels.length<dK s.fTag
   ·rw[Wy q2] at k2;omega
   ·omega
 |cons s' r=>
  rw[D] at hl
  refine O6 ?_
  rw[hu]
  refine V_ ?_ (vt r (g+1) (fK s' (g:Int) a))
  have M:(hJ r (g+1+1) (fK s' ((g+1:Nat):Int) (fK s (g:Int) a))).fnotes.length=0:=by
   have:(hJ (s::s'::r) g a).fnotes.length=0:=by omega
   exact this
  have d:=vt r (g+1+1) (fK s' ((g+1:Nat):Int) (fK s (g:Int) a))
  obtain⟨m1,m2⟩:=rC s' ((g+1:Nat):Int) (fK s (g:Int) a)
  obtain⟨o,V⟩:=rC s' (g:Int) a
  have a0:F0 s.fTag a.flevels.length=0:=by omega
  have a1:F0 s'.fTag (yQ s.fTag a.flevels.length)=0:=by rw[<-k1];omega
  have a2:F0 s'.fTag a.flevels.length≠0:=by
   have h5:gE s'.fTag=true->0<dK s'.fTag:=pz
   intro h6
   rw[Ho] at a0 a1 h6
   rcases a0 with⟨q,q1⟩|⟨q,q1,q2⟩|⟨q,q1,q2⟩
   ·have:yQ s.fTag a.flevels.length=dK s.fTag:=by unfold yQ;rw[Wy q]
    rw[this] at a1
    rcases a1 with⟨u,u1⟩|⟨u,u1,u2⟩|⟨u,u1,u2⟩<;>rcases h6 with⟨v,b⟩|⟨v,b,v2⟩|⟨v,b,v2⟩<;>first|omega|(rw[u] at v;cases v)|(have:=h5 u;omega)
   ·have:yQ s.fTag a.flevels.length=dK s.fTag - 1:=by unfold yQ;rw[WU (by rw[q];decide),Wy hT,WU oM]
    rw[this] at a1
    rcases a1 with⟨u,u1⟩|⟨u,u1,u2⟩|⟨u,u1,u2⟩<;>rcases h6 with⟨v,b⟩|⟨v,b,v2⟩|⟨v,b,v2⟩<;>first|omega|(rw[u] at v;cases v)|(have:=h5 u;omega)
   ·omega
  omega
variable {i:Int} {lv:Nat} {s:aa}
def pn (tag:List UInt8) (ts:List (List UInt8)):aa:=⟨tag,ts.map fun t=>⟨[[t]]⟩⟩
theorem Kc (tag:List UInt8) (ts:List (List UInt8)):(pn tag ts).fElements.all dt=true:=by
 unfold pn
 simp only[List.all_map,VN,Function.comp]
 intro t _;rfl
theorem Kd (tag:List UInt8) (ts:List (List UInt8)):(pn tag ts).fElements.map firstT=ts:=by
 unfold pn
 rw[WZ]
 conv=>rhs;rw[<-XN ts]
 exact Wc fun t _=>rfl
theorem rq (tag a:List UInt8) (ts:List (List UInt8)):kZ (pn tag (a::ts)).fElements=a/\go (pn tag (a::ts)).fElements=a:=⟨rfl,rfl⟩
theorem O7 {a:RA} (C:IP s=true) (hl:a.flevels.length=lv):mu s lv i a=⟨(sx (go s.fElements) i a).flevels++[⟨true,kZ s.fElements,if lv=2 then 1 else 0,[]⟩],(sx (go s.fElements) i a).fnotes⟩:=by
 have h1:a8 lv i a=a:=by
  unfold a8
  rw[VO oM,show a.flevels.length - lv=0 by omega]
  simp
 have h2:hH lv i a=a:=by unfold hH;rw[WU oM]
 unfold mu ka
 simp only[h1,h2,C,VW]
theorem O8 {L:List RO} {x:RO} {N:List Nt} (hl:L.length=lv) {p q:List UInt8} (hs:s.fElements.all dt=true) (ht:s.fElements.map firstT=[p,q]) (Y:dJ p=true) (hq:eV q=true) (hh:x.fheaded=true) (Z:i1 p=x.fmany+(if lv=2 then 1 else 0)) (D:q=x.fref):
  mS s lv i ⟨L++[x],N⟩=⟨L,N⟩:=by
 unfold mS
 rw[WU oT]
 have hx:(L++[x])[lv]?=some x:=by rw[<-hl];simp
 simp only[hx,hs,VW,ht]
 unfold I1
 simp only
 rw[Wy ⟨Y,hq⟩,Wy hh,Wy Z,Wy D]
 unfold a8
 rw[show(L++[x]).length - (lv+1)=0 by simp;omega,<-hl]
 simp
theorem Hp:∀ (segs:List aa),(∀ s∈segs,dK s.fTag=0)->∀ (i:Nat) (I G M:RO) (N:List Nt),hJ segs i ⟨[I,G,M],N⟩=⟨[I,G,⟨M.fheaded,M.fref,M.fmany+(segs.length:Int),M.frefs⟩],N⟩
 |[],_,i,I,G,M,N=>by simp[hJ]
 |s::segs,h,i,I,G,M,N=>by
  have h0:=h s oS
  have hh:gE s.fTag=false:=by
   cases e:gE s.fTag with
   |false=>rfl
   |true=>have:=pz e;omega
  have:fK s (i:Int) ⟨[I,G,M],N⟩=⟨[I,G,⟨M.fheaded,M.fref,M.fmany+1,M.frefs⟩],N⟩:=by
   unfold fK
   rw[WU (by rw[hh];decide),WU oM,WU oS]
   rfl
  show hJ segs (i+1) (fK s (i:Int) _)=_
  rw[this,Hp segs (fun s hs=>h s (Wx _ hs))]
  have:M.fmany+1+(segs.length:Int)=M.fmany+((s::segs).length:Int):=by simp only[Vk];omega
  simp only[this]
structure MT where
 ref:List UInt8
 kind:List UInt8
 ver:List UInt8
 segs:List aa
def xf (m:MT):List aa:=pn oh [m.ref,m.kind,m.ver]::(m.segs++[pn Ey [Lib.itoa ((m.segs.length:Int)+2),m.ref]])
structure GT where
 ref:List UInt8
 kind:List UInt8
 msgs:List MT
def vj (g:GT):List aa:=pn pB [g.ref,g.kind]::(g.msgs.flatMap xf++[pn Ex [Lib.itoa (g.msgs.length:Int),g.ref]])
variable {a:RA} {i:Int} {lv:Nat} {s:aa}
theorem K4 {e:ak} (h:dt e=true):e=⟨[[firstT e]]⟩:=by
 obtain⟨r⟩:=e
 unfold dt at h
 unfold firstT
 match r,h with
 |[[t]],_=>rfl
theorem J_ (h:s.fElements.all dt=true):s=pn s.fTag (s.fElements.map firstT):=by
 obtain⟨tag,es⟩:=s
 unfold pn
 simp only at h⊢
 congr 1
 rw[WZ]
 conv=>lhs;rw[<-XN es]
 exact Wc fun e he=>K4 (VN.1 h e he)
theorem py (h:(fK s i a).fnotes.length<=a.fnotes.length):F0 s.fTag a.flevels.length=0:=by
 have:=(rC s i a).2
 omega
theorem IX (h:(mu s lv i a).fnotes.length<=a.fnotes.length):IP s=true:=by
 cases e:IP s with
 |true=>rfl
 |false=>
  exfalso
  unfold mu at h
  simp only at h
  have h1:a.fnotes.length<=(hH lv i (a8 lv i a)).fnotes.length:=by
   unfold hH
   split
   ·simp only[a8,Vl];omega
   ·simp only[a8,Vl];omega
  have h2:(ka s i (hH lv i (a8 lv i a))).fnotes.length=(hH lv i (a8 lv i a)).fnotes.length+1:=by
   unfold ka
   rw[WU (by rw[e];decide)]
   simp[mR]
  have E:(ka s i (hH lv i (a8 lv i a))).fnotes.length<=(sx (go s.fElements) i (ka s i (hH lv i (a8 lv i a)))).fnotes.length:=by
   unfold sx
   split
   ·exact Vs _
   ·simp
  omega
theorem IY {L:List RO} {x:RO} {N:List Nt} (hl:L.length=lv) (hh:x.fheaded=true) (h:(mS s lv i ⟨L++[x],N⟩).fnotes.length<=N.length):
  ∃ p q,s.fElements.all dt=true/\s.fElements.map firstT=[p,q]/\dJ p=true/\eV q=true/\i1 p=x.fmany+(if lv=2 then 1 else 0)/\q=x.fref:=by
 have hx:(L++[x])[lv]?=some x:=by rw[<-hl];simp
 unfold mS at h
 rw[WU oT] at h
 simp only[hx,a8,Vl] at h
 have h0:(if s.fElements.all dt=true then I1 (s.fElements.map firstT) lv i x else[⟨6,i⟩]).length=0:=by omega
 by_cases ha:s.fElements.all dt=true
 ·rw[Wy ha] at h0
  unfold I1 at h0
  split at h0
  ·rename_i p q he
   split at h0
   ·rename_i h1
    rw[Vl] at h0
    refine⟨p,q,ha,he,h1.1,h1.2, ?_, ?_⟩
    ·refine Decidable.byContradiction fun g=> ?_
     rw[WU g] at h0
     simp at h0
    ·refine Decidable.byContradiction fun g=> ?_
     rw[WU g] at h0
     simp at h0
   ·simp at h0
  ·simp at h0
 ·rw[WU ha] at h0
  simp at h0
theorem x7 (hl:a.flevels.length=lv) (h:(mu s lv i a).fnotes.length<=a.fnotes.length):
  IP s=true/\mu s lv i a=⟨(sx (go s.fElements) i a).flevels++[⟨true,kZ s.fElements,if lv=2 then 1 else 0,[]⟩],(sx (go s.fElements) i a).fnotes⟩/\(sx (go s.fElements) i a).fnotes.length<=a.fnotes.length:=by
 have C:=IX h
 have hq:=O7 (i:=i) C hl
 refine⟨C,hq, ?_⟩
 rw[hq] at h
 exact h
def kY (i:Nat) (a:RA) (l:List aa):Prop:=(hJ l i a).fnotes.length<=a.fnotes.length/\(hJ l i a).flevels=[]
theorem kY.step {i:Nat} {l:List aa} (h:kY i a (s::l)):(fK s (i:Int) a).fnotes.length<=a.fnotes.length/\kY (i+1) (fK s (i:Int) a) l:=by
 have h1:hJ (s::l) i a=hJ l (i+1) (fK s (i:Int) a):=rfl
 obtain⟨g1,g2⟩:=h
 rw[h1] at g1 g2
 have m:=vt l (i+1) (fK s (i:Int) a)
 have k:=(rC s (i:Int) a).2
 exact⟨by omega,by omega,g2⟩
theorem Ct:∀ (l:List aa) (i:Nat) (a:RA),a.flevels.length=3->kY i a l->∃ segs s z,l=segs++s::z/\(∀ x∈segs,dK x.fTag=0)/\dK s.fTag=3/\gE s.fTag=false
 |[],i,a,E,h=>by
  have:a.flevels=[]:=h.2
  rw[this] at E;simp at E
 |s::l,i,a,E,h=>by
  obtain⟨h1,h2⟩:=h.step
  have h0:=py h1
  rw[Ho,E] at h0
  have s0:=Kb s.fTag
  rcases h0 with⟨q,q1⟩|⟨q,q1,q2⟩|⟨q,q1,q2⟩
  ·omega
  ·exact⟨[],s,l,rfl,by simp,q2.symm,q⟩
  ·have hn:=(rC s (i:Int) a).1
   rw[E] at hn
   unfold yQ at hn
   rw[WU (by rw[q];decide),WU oM] at hn
   obtain⟨segs,s',z,e,g1,g2,g3⟩:=Ct l (i+1) _ hn h2
   refine⟨s::segs,s',z,by rw[e];rfl, ?_,g2,g3⟩
   intro x hx
   rcases VK.1 hx with rfl|hx
   ·exact q1
   ·exact g1 x hx
variable {I:RO} {N:List Nt} {a:RA} {i:Nat} {l:List aa} {n:Nat} {s:aa} {t:List UInt8}
theorem Mt (hn:dK t=n+1):t=yV n\/t=rb n:=by
 unfold dK at hn
 unfold yV rb
 split at hn
 ·rename_i h;have:n=0:=by omega
  subst this;exact h
 ·split at hn
  ·rename_i h;have:n=1:=by omega
   subst this;exact h
  ·split at hn
   ·rename_i h;have:n=2:=by omega
    subst this;exact h
   ·omega
theorem Ca (hn:dK t=n+1) (hh:gE t=true) (E:n<3):t=yV n:=by
 rcases Mt hn with h|h
 ·exact h
 ·subst h
  exfalso
  match n,E with
  |0,_=>revert hh;decide
  |1,_=>revert hh;decide
  |2,_=>revert hh;decide
theorem O3 (hn:dK t=n+1) (hh:gE t=false) (E:n<3):t=rb n:=by
 rcases Mt hn with h|h
 ·subst h
  exfalso
  match n,E with
  |0,_=>revert hh;decide
  |1,_=>revert hh;decide
  |2,_=>revert hh;decide
 ·exact h
theorem kY.skip {m:List aa} (h:kY i a (l++m)):kY (i+l.length) (hJ l i a) m:=by
 obtain⟨g1,g2⟩:=h
 rw[Cb] at g1 g2
 have k:=vt l i a
 exact⟨by omega,g2⟩
def Ur (m:MT):Prop:=eV m.ref=true/\dP m.kind=true/\dP m.ver=true/\∀ s∈m.segs,dK s.fTag=0
theorem zT {i:Int} (h:gE s.fTag=true):fK s i a=mu s (dK s.fTag - 1) i a:=by unfold fK;rw[Wy h]
theorem K5 {i:Int} (h:gE s.fTag=false) (h1:0<dK s.fTag):fK s i a=mS s (dK s.fTag - 1) i a:=by
 unfold fK;rw[WU (by rw[h];decide),Wy h1]
theorem FZ {lv:Nat} (E:lv<3) {L:List RO} {r:List UInt8} {n:Int} {rs:List (List UInt8)} (u:L.length=lv) (ht:gE s.fTag=false) (hv:dK s.fTag=lv+1) (h:kY i ⟨L++[⟨true,r,n,rs⟩],N⟩ (s::l)):s=pn (rb lv) [Lib.itoa (n+if lv=2 then 1 else 0),r]/\kY (i+1) ⟨L,N⟩ l:=by
 obtain⟨h1,h2⟩:=h.step
 have e:fK s (i:Int) ⟨L++[⟨true,r,n,rs⟩],N⟩=mS s lv (i:Int) ⟨L++[⟨true,r,n,rs⟩],N⟩:=by rw[K5 ht oM,hv];rfl
 rw[e] at h1 h2
 obtain⟨p,q,a1,a2,a3,a4,a5,a⟩:=IY u rfl h1
 rw[O8 u a1 a2 a3 a4 rfl a5 a] at h2
 refine⟨?_,h2⟩
 rw[J_ a1,a2,O3 hv ht E]
 simp only at a5 a
 rw[<-a5,Cs a3,a]
theorem K6 {G:RO} (h:kY i ⟨[I,G],N⟩ (s::l)) (hh:gE s.fTag=true):
  ∃ m z p,Ur m/\s::l=xf m++z/\kY (i+(xf m).length) ⟨[I,tb m.ref G],p⟩ z:=by
 obtain⟨h1,h2⟩:=h.step
 have h0:=py h1
 rw[Ho] at h0
 simp only[Vk,Vp] at h0
 have Y:=pz hh
 have hv:dK s.fTag=2+1:=by rcases h0 with⟨_,q⟩|⟨q,_⟩|⟨q,_⟩<;>first|omega|(rw[hh] at q;cases q)
 have ht:=Ca hv hh oM
 have e:fK s (i:Int) ⟨[I,G],N⟩=mu s 2 (i:Int) ⟨[I,G],N⟩:=by rw[zT hh,hv]
 rw[e] at h1 h2
 obtain⟨A,C,F⟩:=x7 (lv:=2) (a:=⟨[I,G],N⟩) rfl h1
 have M:s.fTag=oh:=ht
 have hs:∃ r k v,s=pn oh [r,k,v]/\eV r=true/\dP k=true/\dP v=true:=by
  unfold IP at A
  rw[M,WU oD,Wy rfl,Vj] at A
  obtain⟨T,c2⟩:=A
  have S:=J_ T
  generalize s.fElements.map firstT=ts at c2 S
  match ts,c2,S with
  |[r,k,v],c2,S=>
   simp only[La,Vj] at c2
   exact⟨r,k,v,by rw[S,M],c2.1.1,c2.1.2,c2.2⟩
 obtain⟨r,k,v,hs,r1,r2,r3⟩:=hs
 rw[C,hs,(rq oh r [k,v]).1,(rq oh r [k,v]).2] at h2
 generalize hN:(sx r (i:Int) ⟨[I,G],N⟩)=R at h2
 have t:R.flevels=[I,tb r G]:=by rw[<-hN,show([I,G]:List RO)=[I]++[G] from rfl,rr];rfl
 rw[t] at h2
 obtain⟨segs,s2,z,e2,g1,g2,g3⟩:=Ct l (i+1) _ rfl h2
 have d:kY (i+1) ⟨[I,tb r G,⟨true,r,1,[]⟩],R.fnotes⟩ (segs++s2::z):=by rw[<-e2];exact h2
 have h4:=d.skip
 rw[Hp segs g1] at h4
 obtain⟨j,t2⟩:=FZ (lv:=2) (L:=[I,tb r G]) oM rfl g3 g2 h4
 refine⟨⟨r,k,v,segs⟩,z,R.fnotes,⟨r1,r2,r3,g1⟩, ?_, ?_⟩
 ·rw[e2,hs,j]
  unfold xf
  have:(1:Int)+(segs.length:Int)+(if(2:Nat)=2 then 1 else 0)=(segs.length:Int)+2:=by rw[Wy rfl];omega
  rw[this]
  simp[rb]
 ·have:i+(xf ⟨r,k,v,segs⟩).length=i+1+segs.length+1:=by simp[xf];omega
  rw[this]
  exact t2
theorem Cu:∀ (n:Nat) (l:List aa),l.length<=n->∀ (i:Nat) (I G:RO) (N:List Nt),kY i ⟨[I,G],N⟩ l->
  ∃ (ms:List MT) (s:aa) (z:List aa) (rs:List (List UInt8)) (p:List Nt),(∀ m∈ms,Ur m)/\l=ms.flatMap xf++s::z/\gE s.fTag=false/\dK s.fTag=2/\
   kY (i+(ms.flatMap xf).length) ⟨[I,⟨G.fheaded,G.fref,G.fmany+(ms.length:Int),rs⟩],p⟩ (s::z)
 |n,[],_,i,I,G,N,h=>by
  have:([I,G]:List RO)=[]:=h.2
  cases this
 |0,s::l,hn,_,_,_,_,_=>by simp at hn
 |n+1,s::l,hn,i,I,G,N,h=>by
  cases hh:gE s.fTag with
  |false=>
   have h0:=py h.step.1
   rw[Ho] at h0
   simp only[Vk,Vp] at h0
   refine⟨[],s,l,G.frefs,N,by simp,rfl,hh, ?_,by simpa using h⟩
   rcases h0 with⟨q,_⟩|⟨_,_,q⟩|⟨_,_,q⟩
   ·rw[hh] at q;cases q
   ·omega
   ·omega
  |true=>
   obtain⟨m,z,b,m1,m2,m3⟩:=K6 h hh
   have hl:z.length<=n:=by
    have:=Wf List.length m2
    simp[xf] at this hn
    omega
   obtain⟨ms,s',a,rs,p,k1,k2,k3,k4,k5⟩:=Cu n z hl _ _ _ _ m3
   refine⟨m::ms,s',a,rs,p, ?_, ?_,k3,k4, ?_⟩
   ·intro x hx
    rcases VK.1 hx with rfl|hx
    ·exact m1
    ·exact k1 x hx
   ·rw[m2,k2];simp
   ·have e1:i+((m::ms).flatMap xf).length=i+(xf m).length+(ms.flatMap xf).length:=by simp only[WB,Vl];omega
    have e2:G.fmany+((m::ms).length:Int)=G.fmany+1+(ms.length:Int):=by simp only[Vk];omega
    rw[e1,e2]
    exact k5
def Us (g:GT):Prop:=eV g.ref=true/\dP g.kind=true/\∀ m∈g.msgs,Ur m
theorem K7 (h:kY i ⟨[I],N⟩ (s::l)) (hh:gE s.fTag=true):
  ∃ g z p,Us g/\s::l=vj g++z/\kY (i+(vj g).length) ⟨[tb g.ref I],p⟩ z:=by
 obtain⟨h1,h2⟩:=h.step
 have h0:=py h1
 rw[Ho] at h0
 simp only[Vk,Vp] at h0
 have Y:=pz hh
 have hv:dK s.fTag=1+1:=by rcases h0 with⟨_,q⟩|⟨q,_⟩|⟨q,_⟩<;>first|omega|(rw[hh] at q;cases q)
 have ht:=Ca hv hh oM
 have e:fK s (i:Int) ⟨[I],N⟩=mu s 1 (i:Int) ⟨[I],N⟩:=by rw[zT hh,hv]
 rw[e] at h1 h2
 obtain⟨A,C,F⟩:=x7 (lv:=1) (a:=⟨[I],N⟩) rfl h1
 have M:s.fTag=pB:=ht
 have hs:∃ r k,s=pn pB [r,k]/\eV r=true/\dP k=true:=by
  unfold IP at A
  rw[M,Wy rfl,Vj] at A
  obtain⟨T,c2⟩:=A
  have S:=J_ T
  generalize s.fElements.map firstT=ts at c2 S
  match ts,c2,S with
  |[r,k],c2,S=>
   simp only[K_,Vj] at c2
   exact⟨r,k,by rw[S,M],c2.1,c2.2⟩
 obtain⟨r,k,hs,r1,r2⟩:=hs
 rw[C,hs,(rq pB r [k]).1,(rq pB r [k]).2] at h2
 generalize hN:(sx r (i:Int) ⟨[I],N⟩)=R at h2
 have t:R.flevels=[tb r I]:=by rw[<-hN,show([I]:List RO)=[]++[I] from rfl,rr];rfl
 rw[t] at h2
 obtain⟨ms,s2,z,rs,p,g1,e2,g3,g2,h4⟩:=Cu l.length l (Vs _) (i+1) (tb r I) ⟨true,r,0,[]⟩ R.fnotes h2
 obtain⟨j,t2⟩:=FZ (lv:=1) (L:=[tb r I]) oM rfl g3 g2 h4
 refine⟨⟨r,k,ms⟩,z,p,⟨r1,r2,g1⟩, ?_, ?_⟩
 ·rw[e2,hs,j]
  unfold vj
  have:(0:Int)+(ms.length:Int)+(if(1:Nat)=2 then 1 else 0)=(ms.length:Int):=by rw[WU oM];omega
  rw[this]
  simp[rb]
 ·have:i+(vj ⟨r,k,ms⟩).length=i+1+(ms.flatMap xf).length+1:=by simp only[vj,Vk,Vl,Vp];omega
  rw[this]
  exact t2
theorem Cv:∀ (n:Nat) (l:List aa),l.length<=n->∀ (i:Nat) (I:RO) (N:List Nt),kY i ⟨[I],N⟩ l->
  ∃ (gs:List GT) (s:aa) (z:List aa) (rs:List (List UInt8)) (p:List Nt),(∀ g∈gs,Us g)/\l=gs.flatMap vj++s::z/\gE s.fTag=false/\dK s.fTag=1/\
   kY (i+(gs.flatMap vj).length) ⟨[⟨I.fheaded,I.fref,I.fmany+(gs.length:Int),rs⟩],p⟩ (s::z)
 |n,[],_,i,I,N,h=>by
  have:([I]:List RO)=[]:=h.2
  cases this
 |0,s::l,hn,_,_,_,_=>by simp at hn
 |n+1,s::l,hn,i,I,N,h=>by
  cases hh:gE s.fTag with
  |false=>
   have h0:=py h.step.1
   rw[Ho] at h0
   simp only[Vk,Vp] at h0
   refine⟨[],s,l,I.frefs,N,by simp,rfl,hh, ?_,by simpa using h⟩
   rcases h0 with⟨q,_⟩|⟨_,_,q⟩|⟨_,_,q⟩
   ·rw[hh] at q;cases q
   ·omega
   ·omega
  |true=>
   obtain⟨g,z,b,m1,m2,m3⟩:=K7 h hh
   have hl:z.length<=n:=by
    have:=Wf List.length m2
    simp[vj] at this hn
    omega
   obtain⟨gs,s',a,rs,p,k1,k2,k3,k4,k5⟩:=Cv n z hl _ _ _ m3
   refine⟨g::gs,s',a,rs,p, ?_, ?_,k3,k4, ?_⟩
   ·intro x hx
    rcases VK.1 hx with rfl|hx
    ·exact m1
    ·exact k1 x hx
   ·rw[m2,k2];simp
   ·have e1:i+((g::gs).flatMap vj).length=i+(vj g).length+(gs.flatMap vj).length:=by simp only[WB,Vl];omega
    have e2:I.fmany+((g::gs).length:Int)=I.fmany+1+(gs.length:Int):=by simp only[Vk];omega
    rw[e1,e2]
    exact k5
theorem K8 (h:ya l=[]) (U:l≠[]) (hi:∀ s∈l.drop 1,s.fTag≠i2):
  ∃ (r snd rcv d sec t:List UInt8) (gs:List GT),l=pn i2 [r,snd,rcv,d,sec,t]::(gs.flatMap vj++[pn BG [Lib.itoa (gs.length:Int),r]])/\
   eV r=true/\dP snd=true/\dP rcv=true/\E1 d=true/\E2 sec=true/\(t=[]\/t=[49])/\∀ g∈gs,Us g:=by
 have hq:kY 0 ⟨[],[]⟩ l:=by
  unfold ya a8 at h
  simp only[List.append_eq_nil_iff] at h
  obtain⟨a1,a2⟩:=h
  refine⟨by rw[a1];simp, ?_⟩
  have:=Wf List.length a2
  simp only[VE,Vp] at this
  exact List.eq_nil_of_length_eq_zero oM
 match l,U,hi,hq with
 |s::l,_,hi,hq=>
  obtain⟨h1,h2⟩:=hq.step
  have h0:=py h1
  rw[Ho] at h0
  simp only[Vp] at h0
  have hh:gE s.fTag=true:=by
   rcases h0 with⟨q,_⟩|⟨_,_,q⟩|⟨_,_,q⟩
   ·exact q
   ·omega
   ·omega
  have Y:=pz hh
  have hv:dK s.fTag=0+1:=by rcases h0 with⟨_,q⟩|⟨_,_,q⟩|⟨_,_,q⟩<;>omega
  have M:s.fTag=i2:=Ca hv hh oM
  have e:fK s ((0:Nat):Int) ⟨[],[]⟩=mu s 0 ((0:Nat):Int) ⟨[],[]⟩:=by rw[zT hh,hv]
  rw[e] at h1 h2
  obtain⟨A,C,F⟩:=x7 (lv:=0) (a:=⟨[],[]⟩) rfl h1
  have hs:∃ r snd rcv d sec t,s=pn i2 [r,snd,rcv,d,sec,t]/\eV r=true/\dP snd=true/\dP rcv=true/\E1 d=true/\E2 sec=true/\(t=[]\/t=[49]):=by
   unfold IP at A
   rw[M,WU oD,WU oD,Vj] at A
   obtain⟨T,c2⟩:=A
   have S:=J_ T
   generalize s.fElements.map firstT=ts at c2 S
   match ts,c2,S with
   |[r,snd,rcv,d,sec,t],c2,S=>
    simp only[Lb,Vj,V8,Vv] at c2
    exact⟨r,snd,rcv,d,sec,t,by rw[S,M],c2.1.1.1.1.1,c2.1.1.1.1.2,c2.1.1.1.2,c2.1.1.2,c2.1.2,c2.2⟩
  obtain⟨r,snd,rcv,d,sec,t,hs,r1,r2,r3,r4,r5,r6⟩:=hs
  rw[C,hs,(rq i2 r [snd,rcv,d,sec,t]).1,(rq i2 r [snd,rcv,d,sec,t]).2,vy] at h2
  obtain⟨gs,s2,z,rs,p,g1,e2,g3,g2,h4⟩:=Cv l.length l (Vs _) (0+1) ⟨true,r,0,[]⟩ [] h2
  obtain⟨j,t2⟩:=FZ (lv:=0) (L:=[]) oM rfl g3 g2 h4
  have i:z=[]:=by
   match z,t2,e2 with
   |[],_,_=>rfl
   |u::z,t2,e2=>
    exfalso
    have D:=py t2.step.1
    rw[Ho] at D
    simp only[Vp] at D
    have qh:gE u.fTag=true/\dK u.fTag=0+1:=by
     rcases D with⟨q,q'⟩|⟨_,_,q⟩|⟨_,_,q⟩
     ·have:=pz q;exact⟨q,by omega⟩
     ·omega
     ·omega
    exact hi u (by rw[List.drop_one,List.tail_cons,e2];simp) (Ca qh.2 qh.1 oM)
  refine⟨r,snd,rcv,d,sec,t,gs, ?_,r1,r2,r3,r4,r5,r6,g1⟩
  rw[e2,hs,j,i]
  have:(0:Int)+(gs.length:Int)+(if(0:Nat)=2 then 1 else 0)=(gs.length:Int):=by rw[WU oM];omega
  rw[this]
  simp[rb]
def Vb (t:List UInt8):ak:=⟨[[t]]⟩
abbrev i64 (n:Int):Prop:= -9223372036854775808<=n/\n<=9223372036854775807
theorem Kl {α β:Type} {f:α->List β}:∀ {l:List α} {i:Nat} {e:α},l[i]?=some e->(f e).length<=(l.flatMap f).length
 |[],i,e,h=>by simp at h
 |a::l,0,e,h=>by simp at h;subst h;simp
 |a::l,i+1,e,h=>by
  have:=Kl (f:=f) (l:=l) (i:=i) (e:=e) (by simpa using h)
  simp only[WB,Vl];omega

theorem K3 (n k:Nat):decide ((k:Int)<(n:Int))=decide (k<n):=by congr 1;apply propext;omega
theorem FY {α:Type} (l:List α) (i:Nat) (hi:i<=l.length) (hl:l.length<=MX) (q:α->Bool) {f:Int->Option (Int⊕(Int⊕Int))} (K:Int->Option Int) (C:∀ k o,k<i->l[k]?=some o->f (k:Int)=bif q o then some (.inr (.inr 7)) else some (.inl ((k+1:Nat):Int))) (he:f (i:Int)=some (.inr (.inl (i:Int)))):
  (bn f 0).bind (bZ K)=bif (l.take i).any q then some 7 else K (i:Int):=by
 refine(uX (fun i:Nat=>(i:Int)) (n:=i) (g:=xe l q 7) (fun k hk=> ?_) he K).trans ?_
 ·obtain⟨o,ho⟩:=dl (l:=l) (i:=k) oM
  rw[C k o hk ho]
  simp only[xe,ho]
  cases q o<;>rfl
 ·rw[Et l q 7 oD i hi]
  cases(l.take i).any q<;>rfl
