/-
  Texts of mine, one behind the other (SZQ2, SZQ3, SZQ4, SZGC, SZGD, SZGE, SZGF, SZGR, SZY1, SZY2, SZY7, SZY8, SZY9, SZY10, SZKS, SZKSG, SZK1, SZK2a, SZI1, SZUIN, SZPN, SZAU1, SZAN, SZAU2, SZAU3, SZAU4, SZAU5, SZSO1, SZSO2).
-/
import Derived.Test.YtgmnipfafmphaaaGreatDoorBZ1
import Derived.Test.YtgmnipfafmphaaaGreatDoorBZ2
import Derived.Test.YtgmnipfafmphaaaGreatDoorBZ3
import Derived.Test.YtgmnipfafmphaaaGreatDoorBZ4
import Derived.Test.YtgmnipfafmphaaaGreatDoorSZEngZz
import Derived.Test.YtgmnipfafmphaaaGreatDoorProg
import Derived.Test.YtgmnipfafmphaaaGreatDoorSZEngRi
import Derived.Test.YtgmnipfafmphaaaGreatDoorSZEngRj
import Derived.Test.YtgmnipfafmphaaaGreatDoorSZEngRo
import Derived.Test.YtgmnipfafmphaaaGreatDoorSZEngRq
import Derived.Lib.ItoaLen
import Derived.Test.YtgmnipfafmphaaaGreatDoorSZEngRk
namespace Go.Proofs.YtgmnipfafmphaaaGreatDoor
open Go.RowKit
set_option linter.unusedSimpArgs false
set_option linter.unusedVariables false
def pN:List UInt8:=[65,66,67,68,69,70,71,72,73,74,75,76,77,78,79,80,81,82,83,84,85,86,87,88,89,90,48,49,50,51,52,53,54,55,56,57]
theorem sB (l:List UInt8) (hl:l.length<=9223372036854775807):kR l=some (decide (Lib.trimS l pN=[])):=by
 unfold kR eI;dsimp only
 have:em l pN=some (Lib.trimS l pN):=by unfold em;rw[if_pos ⟨hl,by decide,by decide⟩]
 simp only[pN] at this⊢
 rw[this]
 rfl
def J6 (b:UInt8):Bool:= !decide (Lib.trimS [b] pN=[])&& !(match[b].findSome? fun x=>if(decide ((x.toNat:Int)<97)||decide ((122:Int)<(x.toNat:Int)))=true then some false else none with|some b=>b|none=>true)&& !Lib.containsAny [b] [46,45,43,95]
theorem DW:(List.range 256).all (fun n=>decide (n<33)||decide (126<n)||(J6 (UInt8.ofNat n)==je (UInt8.ofNat n)))=true:=oK
theorem Jf (b:UInt8):jF b=some (je b):=by
 unfold jF dN;dsimp only
 by_cases h:33<=b.toNat/\b.toNat<=126
 ·have hc:eW [b] [46,45,43,95]=some (Lib.containsAny [b] [46,45,43,95]):=by
   unfold eW
   rw[if_pos ⟨by simp,by simp,by simp;omega,by decide⟩]
  have hw:=Lj.1 DW b.toNat (LM.2 b.toNat_lt)
  have hb:UInt8.ofNat b.toNat=b:=by simp
  rw[hb] at hw
  have d1:decide ((33:Int)<=(b.toNat:Int))=true:=by simp;omega
  have d2:decide ((b.toNat:Int)<=126)=true:=by simp;omega
  have d3:decide (b.toNat<33)=false:=by simp;omega
  have d4:decide (126<b.toNat)=false:=by simp;omega
  simp only[d3,d4,Mh,La] at hw
  rw[<-hw]
  simp only[DU b oM,sB [b] oS,xb [b] _ _ oS,hc,ep,K3,d1,d2,L4]
  rfl
 ·have hm:je b=false:=by
   unfold je
   have:(decide ((b.toNat:Int)<33)||decide (126<(b.toNat:Int)))=true:=by simp;omega
   rw[this]
   simp
  have d:(decide ((33:Int)<=(b.toNat:Int))&&decide ((b.toNat:Int)<=126))=false:=by simp;omega
  rw[hm]
  simp only[ep,K3,d]
  rfl
def uT (x:UInt8):Bool:=decide ((x.toNat:Int)<32)||decide (126<(x.toNat:Int))
def mw (t:List UInt8):Int:=if 1000<t.length then 2 else match t.findSome? (fun x=>if uT x=true then some (3:Int) else none) with|some a=>a|none=>0
theorem ol {α A B:Type} (p:α->Bool) (a:A) (b:B):∀ (l:List α),(l.findSome? (fun x=>if p x=true then some a else none)=none/\l.findSome? (fun x=>if p x=true then some b else none)=none)\/(l.findSome? (fun x=>if p x=true then some a else none)=some a/\l.findSome? (fun x=>if p x=true then some b else none)=some b)
 |[]=> .inl ⟨rfl,rfl⟩
 |x::l=>by
  rw[List.findSome?_cons,List.findSome?_cons]
  cases h:p x with
  |true=>exact .inr ⟨by simp,by simp⟩
  |false=>simpa using ol p a b l
theorem Jg (t:List UInt8):kh t=some (mw t):=by
 unfold kh iZ;dsimp only
 unfold mw
 by_cases h:1000<t.length
 ·have:decide ((1000:Int)<(t.length:Int))=true:=by simp;omega
  simp only[this,Ln,h,LX]
 ·have h1:decide ((1000:Int)<(t.length:Int))=false:=by simp;omega
  have h2:decide ((t.length:Int)<=1000)=true:=by simp;omega
  have hT:nO t=some (match t.findSome? fun x=>if uT x=true then some false else none with|some b=>b|none=>true):=by
   unfold nO dN;dsimp only
   simp only[h2,xb t _ _ oM,ep,K3,L4]
   rfl
  simp only[h1,LE,h,LI,hT,K3]
  rcases ol uT (3:Int) false t with⟨e1,e2⟩|⟨e1,e2⟩<;>rw[e1,e2]<;>rfl
def ic {α:Type} (h:α->Int):List α->Int
 |[]=>0
 |e::l=>if h e=0 then ic h l else h e
theorem l4 {α R:Type} (l:List α) (h:α->Int) (ret:Int->R) (k:Int->Option R) {f:Int->Option (Int⊕(Int⊕R))}
  (hb:∀ (i:Nat) (e:α),l[i]?=some e->f (i:Int)=if h e=0 then some (.inl ((i+1:Nat):Int)) else some (.inr (.inr (ret (h e)))))
  (he:f (l.length:Int)=some (.inr (.inl (l.length:Int)))):(bg f 0).bind (eg k)=if ic h l=0 then k (l.length:Int) else some (ret (ic h l)):=by
 have:∀ (t:List α) (i:Nat),l.drop i=t->i<=l.length->bg f (i:Int)=if ic h t=0 then some (.inl (l.length:Int)) else some (.inr (ret (ic h t))):=by
  intro t
  induction t with
  |nil=>
   intro i hd hi
   have:=n8 hd hi
   subst this
   rw[cC,he]
   rfl
  |cons e t ih=>
   intro i hd hi
   obtain⟨h1,h2,h3⟩:=tG hd
   rw[cC,hb i e h1]
   by_cases h0:h e=0
   ·simp only[ic,h0,LX];exact ih (i+1) h3 h2
   ·simp only[ic,h0,LI]
 have e0:bg f 0=if ic h l=0 then some (.inl (l.length:Int)) else some (.inr (ret (ic h l))):=this l 0 rfl (LT _)
 rw[e0]
 by_cases h0:ic h l=0
 ·rw[if_pos h0,if_pos h0];rfl
 ·rw[if_neg h0,if_neg h0];rfl
theorem eU {α:Type} {h:α->Int}:∀ {l:List α},ic h l=0->∀ e∈l,h e=0
 |[],_,e,he=>by cases he
 |x::l,hl,e,he=>by
  simp only[ic] at hl
  split at hl
  ·rename_i h0
   rcases Li.1 he with rfl|he
   ·exact h0
   ·exact eU hl e he
  ·rename_i h0;exact absurd hl h0
def Ck (l:List (List UInt8)):Int:=if l.length=0 then 9 else if 20<l.length then 2 else ic mw l
def nv (e:ax):Int:=if e.fRepeats.length=0 then 9 else if 20<e.fRepeats.length then 2 else ic Ck e.fRepeats
theorem Jh (e:ax):il e=some (nv e):=by
 unfold il pa;dsimp only
 unfold nv
 by_cases h0:e.fRepeats.length=0
 ·have c:decide ((e.fRepeats.length:Int)=0)=true:=Nb oM
  simp only[c,Ln,if_pos h0]
 ·have d0:decide ((e.fRepeats.length:Int)=0)=false:=MQ oM
  by_cases h1:20<e.fRepeats.length
  ·have d1:decide ((20:Int)<(e.fRepeats.length:Int))=true:=Nb oM
   simp only[d0,d1,Ln,LE,h0,h1,LX,LI]
  ·have d1:decide ((20:Int)<(e.fRepeats.length:Int))=false:=MQ oM
   simp only[d0,d1,LE,h0,h1,LI]
   refine(l4 e.fRepeats Ck (fun a=>a) _ (fun i l he=> ?_) ?_).trans ?_
   ·have hi:=gD he
    simp only[eu hi,Ln,aW,he,K3,ge i oM,Ck]
    by_cases g0:l.length=0
    ·have c0:decide ((l.length:Int)=0)=true:=Nb oM
     simp only[c0,Ln,if_pos g0];rfl
    ·have c0:decide ((l.length:Int)=0)=false:=MQ oM
     by_cases g1:20<l.length
     ·have c1:decide ((20:Int)<(l.length:Int))=true:=Nb oM
      simp only[c0,c1,Ln,LE,g0,g1,LX,LI];rfl
     ·have c1:decide ((20:Int)<(l.length:Int))=false:=MQ oM
      simp only[c0,c1,LE,g0,g1,LI]
      refine(l4 l mw (fun a=> .inr (.inr a)) _ (fun j t ht=> ?_) ?_).trans ?_
      ·have hj:=gD ht
       simp only[eu hj,Ln,aW,he,ht,K3,ge j oM,Jg]
       by_cases hz:mw t=0<;>simp[hz,gm]
      ·simp only[aW,he,K3,bm,LE];rfl
      ·split<;>rfl
   ·simp only[bm,LE];rfl
   ·split<;>simp_all
theorem kA {p:UInt8->Bool}:∀ {l:List UInt8},l.dropWhile p=[]↔∀ x∈l,p x=true
 |[]=>by simp
 |a::l=>by
  rw[M6]
  by_cases h:p a=true
  ·simp[h,kA (l:=l)]
  ·simp[h]
theorem pO {p:UInt8->Bool} {a:UInt8} {r:List UInt8}:∀ {l:List UInt8},l.dropWhile p=a::r->p a=false
 |[],h=>by simp at h
 |b::l,h=>by
  rw[M6] at h
  by_cases hp:p b=true
  ·simp only[hp,LX] at h;exact pO h
  ·simp only[hp] at h
   simp at h;rw[<-h.1];simpa using hp
theorem Bl (l cs:List UInt8):Lib.trimS l cs=[]↔∀ x∈l,cs.contains x=true:=by
 unfold Lib.trimS Lib.trimLeftS Lib.trimRightS
 constructor
 ·intro h
  have h1:List.dropWhile (fun x=>cs.contains x) l.reverse=[]:=by
   cases hr:List.dropWhile (fun x=>cs.contains x) l.reverse with
   |nil=>rfl
   |cons a r=>
    exfalso
    have h2:=pO hr
    rw[hr,kA] at h
    have h3:=h a oS
    rw[h2] at h3;cases h3
  rw[kA] at h1
  intro x hx
  exact h1 x (by simpa using hx)
 ·intro h
  have h1:List.dropWhile (fun x=>cs.contains x) l.reverse=[]:=kA.2 fun x hx=>h x (by simpa using hx)
  rw[h1];rfl
def F8 (b:UInt8):Bool:=decide (65<=(b.toNat:Int))&&decide ((b.toNat:Int)<=90)
def F9 (b:UInt8):Bool:=F8 b|| !(decide ((b.toNat:Int)<48)||decide (57<(b.toNat:Int)))
theorem F_:(List.range 256).all (fun n=>pN.contains (UInt8.ofNat n)==F9 (UInt8.ofNat n))=true:=oK
theorem HJ (b:UInt8):pN.contains b=F9 b:=by
 have:=Lj.1 F_ b.toNat (LM.2 b.toNat_lt)
 have hb:UInt8.ofNat b.toNat=b:=by simp
 rw[hb] at this
 simpa using this
def Bm:List UInt8:=[65,66,67,68,69,70,71,72,73,74,75,76,77,78,79,80,81,82,83,84,85,86,87,88,89,90]
theorem Ga:(List.range 256).all (fun n=>decide (0<=Lib.indexByte Bm (UInt8.ofNat n))==F8 (UInt8.ofNat n))=true:=oK
theorem HK (b:UInt8):decide (0<=Lib.indexByte Bm b)=F8 b:=by
 have:=Lj.1 Ga b.toNat (LM.2 b.toNat_lt)
 have hb:UInt8.ofNat b.toNat=b:=by simp
 rw[hb] at this
 simpa using this
theorem Gb (l:List UInt8):decide (Lib.trimS l pN=[])=l.all F9:=by
 rw[LP,K_,Bl,Lj]
 simp only[HJ]
def uU:List UInt8->Bool
 |[]=>false
 |b::l=>decide (1<=l.length)&&decide (l.length<=5)&&F8 b&&l.all F9
theorem J7 (l:List UInt8) (hl:l.length<=9223372036854775807):o9 l=some (uU l):=by
 unfold o9 dN;dsimp only
 cases l with
 |nil=>rfl
 |cons b l=>
  have hg:cO (b::l) 0=some b:=rfl
  have hi:la Bm b=some (Lib.indexByte Bm b):=rfl
  have hu:([65,66,67,68,69,70,71,72,73,74,75,76,77,78,79,80,81,82,83,84,85,86,87,88,89,90]:List UInt8)=Bm:=rfl
  simp only[sB (b::l) hl,Gb,hg,hu,hi,K3,ep,HK,uU]
  have h1:decide ((2:Int)<=((b::l).length:Int))=decide (1<=l.length):=by simp only[K7];congr 1;apply propext;omega
  have h2:decide (((b::l).length:Int)<=6)=decide (l.length<=5):=by simp only[K7];congr 1;apply propext;omega
  rw[h1,h2]
  cases hb:F8 b with
  |false=>simp
  |true=>simp[F9,hb]
def sC (s:aa):Int:=if uU s.fTag=false then 5 else if 50<s.fElements.length then 2 else ic nv s.fElements
def j6 (l:List aa):Int:=if 2000<l.length then 2 else ic sC l
def tH (l:List aa):Prop:=∀ s∈l,s.fTag.length<=9223372036854775807
theorem Gc (l:List aa) (hs:tH l):gV l=some (j6 l):=by
 unfold gV pb;dsimp only
 unfold j6
 by_cases h1:2000<l.length
 ·have d1:decide ((2000:Int)<(l.length:Int))=true:=Nb oM
  simp only[d1,Ln,h1,LX]
 ·have d1:decide ((2000:Int)<(l.length:Int))=false:=MQ oM
  simp only[d1,LE,h1,LI]
  refine(l4 l sC (fun a=>a) _ (fun i s hes=> ?_) ?_).trans ?_
  ·have hi:=gD hes
   have hst:=hs s (K8 hes)
   simp only[eu hi,Ln,aW,hes,K3,ge i oM,J7 s.fTag oM,sC]
   by_cases ht:uU s.fTag=false
   ·simp[ht,gm]
   ·replace ht:uU s.fTag=true:=by simpa using ht
    simp only[ht,LG,LE,Bool.true_eq_false,LI]
    by_cases h1:50<s.fElements.length
    ·have d1:decide ((50:Int)<(s.fElements.length:Int))=true:=Nb oM
     simp only[d1,Ln,h1,LX];rfl
    ·have d1:decide ((50:Int)<(s.fElements.length:Int))=false:=MQ oM
     simp only[d1,LE,h1,LI]
     refine(l4 s.fElements nv (fun a=> .inr (.inr a)) _ (fun i e he=> ?_) ?_).trans ?_
     ·have hi:=gD he
      simp only[eu hi,Ln,aW,he,K3,ge i oM,Jh]
      by_cases hz:nv e=0<;>simp[hz,gm]
     ·simp only[bm,LE];rfl
     ·split<;>rfl
  ·simp only[bm,LE];rfl
  ·split<;>simp_all
structure eV where
 fheaded:Bool
 fref:List UInt8
 fmany:Int
 frefs:List (List UInt8)
 deriving DecidableEq
def eF (x:eV):List DV:=[.bool x.fheaded,.str x.fref,.int .i64 x.fmany,.slice (List.map dB x.frefs)]
attribute [push_cast] eF
def mI (p0:Bool) (p1:List UInt8) (p2:Int) (p3:Nat):List SV:=[.d (.bool p0)]++([.d (.str p1)]++([.d (.int .i64 p2)]++([.vec p3])))
attribute [push_cast] mI
structure iC where
 flevels:List eV
 fnotes:List ac
 deriving DecidableEq
def md (x:iC):List DV:=[.slice (List.map eF x.flevels),.slice (List.map ab x.fnotes)]
attribute [push_cast] md
def ll (p0:Nat) (p1:Nat):List SV:=[.vec p0]++([.vec p1])
attribute [push_cast] ll
theorem lX {l:List eV}:SV.frzR (aw [.sh,.sh,.sh,.sl 9 [.sh]] eF l)=some (l.map eF):=re rfl (fun _=>rfl)
attribute [push_cast] lX



end Go.Proofs.YtgmnipfafmphaaaGreatDoor

namespace Go.Proofs.YtgmnipfafmphaaaGreatDoor
open Go.RowKit
set_option linter.unusedSimpArgs false
set_option linter.unusedVariables false
def kB (n lo hi:Int):Bool:=decide (n<lo)||decide (hi<n)
theorem xj (n lo hi:Int):iB n lo hi=some (kB n lo hi):=by
 unfold iB aR;dsimp only
 simp only[eo,K3,kB]
def tJ:List UInt8:=[65,66,67,68,69,70,71,72,73,74,75,76,77,78,79,80,81,82,83,84,85,86,87,88,89,90,48,49,50,51,52,53,54,55,56,57,45]
theorem jV {p:UInt8->Bool}:∀ {l:List UInt8},l.dropWhile p=[]↔∀ x∈l,p x=true
 |[]=>by simp
 |a::l=>by
  rw[M6]
  by_cases h:p a=true
  ·simp[h,jV (l:=l)]
  ·simp[h]
theorem om {p:UInt8->Bool} {a:UInt8} {r:List UInt8}:∀ {l:List UInt8},l.dropWhile p=a::r->p a=false
 |[],h=>by simp at h
 |b::l,h=>by
  rw[M6] at h
  by_cases hp:p b=true
  ·simp only[hp,LX] at h;exact om h
  ·simp only[hp] at h
   simp at h;rw[<-h.1];simpa using hp
theorem D_ (l cs:List UInt8):Lib.trimS l cs=[]↔∀ x∈l,cs.contains x=true:=by
 unfold Lib.trimS Lib.trimLeftS Lib.trimRightS
 constructor
 ·intro h
  have h1:List.dropWhile (fun x=>cs.contains x) l.reverse=[]:=by
   cases hr:List.dropWhile (fun x=>cs.contains x) l.reverse with
   |nil=>rfl
   |cons a r=>
    exfalso
    have h2:=om hr
    rw[hr,jV] at h
    have h3:=h a oS
    rw[h2] at h3;cases h3
  rw[jV] at h1
  intro x hx
  exact h1 x (by simpa using hx)
 ·intro h
  have h1:List.dropWhile (fun x=>cs.contains x) l.reverse=[]:=jV.2 fun x hx=>h x (by simpa using hx)
  rw[h1];rfl
def zP (b:UInt8):Bool:=tJ.contains b
def fx (s:List UInt8):Bool:=decide (1<=s.length/\s.length<=14)&&s.all zP
theorem Gw (s:List UInt8):decide (Lib.trimS s tJ=[])=s.all zP:=by
 rw[LP,K_,D_,Lj];rfl
theorem HZ (s:List UInt8) (hs:s.length<=9223372036854775807):em s tJ=some (Lib.trimS s tJ):=by
 unfold em
 rw[if_pos ⟨hs,by decide,by decide⟩]
theorem nz (s:List UInt8) (hs:s.length<=9223372036854775807):pu s=some (fx s):=by
 have ht:=HZ s hs
 have ha:=Gw s
 unfold tJ at ht ha
 unfold pu aR;dsimp only
 simp only[ht,K3,ha,ep]
 congr 1;unfold fx
 rw[LP];simp;omega
def fI (f:Nat->Int):Nat->Nat->Int
 |_,0=>0
 |i,n+1=>if f i≠0 then f i else fI f (i+1) n
theorem pQ {f:Nat->Int}:∀ (i n k:Nat),k<=n->(∀ j,i<=j->j<i+k->f j=0)->fI f i n=fI f (i+k) (n - k)
 |i,n,0,_,_=>by simp
 |i,0,k+1,h,_=>by omega
 |i,n+1,k+1,h,hz=>by
  have h1:=hz i oM oM
  simp only[fI,h1,ne_eq,not_true_eq_false,LI]
  rw[pQ (i+1) n k oM (fun j hj hj'=>hz j oM oM)]
  congr 1<;>omega
theorem pR {α:Type} (l:List α) (n:Nat) (h:n<=l.length):fB l 0 (n:Int)=some (l.take n):=by
 unfold fB
 rw[if_pos oM];simp
abbrev MX:Nat:=9223372036854775807
theorem zQ {S:Type} (st:Nat->S) {n:Nat} {g:Nat->Int} {f:S->Option (S⊕(S⊕Int))} (hf:∀ i,i<n->f (st i)=if g i=0 then some (.inl (st (i+1))) else some (.inr (.inr (g i))))
  (he:f (st n)=some (.inr (.inl (st n)))) (K:S->Option Int):(bg f (st 0)).bind (eg K)=if fI g 0 n=0 then K (st n) else some (fI g 0 n):=by
 have h:=n7 (f:=f) (z:= .inl (st n)) st n (fun i=>if g i=0 then none else some (.inr (g i))) (fun i hi hg=>by
  rw[hf i hi]
  by_cases hz:g i=0
  ·rw[if_pos hz]
  ·simp only[hz,LI] at hg;cases hg) (fun i a hi hg=>by
  rw[hf i hi]
  by_cases hz:g i=0
  ·simp only[hz,LX] at hg;cases hg
  ·simp only[hz,LI,K0] at hg;rw[if_neg hz,hg]) he
 rw[h]
 rcases jU (fun i=>if g i=0 then(none:Option (S⊕Int)) else some (.inr (g i))) n with⟨h1,h2⟩|⟨k,a,h1,h2,h3,h4⟩
 ·have:fI g 0 n=0:=by
   rw[pQ 0 n n oM (fun j _ hj=>by
    have:=h2 j oM
    by_cases hz:g j=0
    ·exact hz
    ·simp only[hz,LI] at this;cases this)]
   simp[fI]
  rw[h1,if_pos this];rfl
 ·have hz:g k≠0:=by intro hz;simp only[hz,LX] at h3;cases h3
  have:fI g 0 n=g k:=by
   rw[pQ 0 n k oM (fun j _ hj=>by
    have:=h2 j oM
    by_cases hz:g j=0
    ·exact hz
    ·simp only[hz,LI] at this;cases this)]
   obtain⟨m,hm⟩:∃ m,n - k=m+1:=⟨n - k - 1,by omega⟩
   rw[hm,LF]
   simp only[fI,hz,ne_eq,not_false_eq_true,LX]
  rw[h4,this,if_neg hz]
  simp only[hz,LI,K0] at h3
  rw[<-h3];rfl
def xk {α:Type} (l:List α) (q:α->Bool) (c:Int) (k:Nat):Int:=match l[k]? with|some o=>if q o=true then c else 0|none=>0
theorem Co {α:Type} (l:List α) (q:α->Bool) (c:Int) (hc:c≠0) (i:Nat) (hi:i<=l.length):
  fI (xk l q c) 0 i=if(l.take i).any q=true then c else 0:=by
 have:∀ d k,k+d=i->fI (xk l q c) k d=if((l.take i).drop k).any q=true then c else 0:=by
  intro d
  induction d with
  |zero=>
   intro k hk
   have:(l.take i).drop k=[]:=Mi (by rw[Lb];omega)
   rw[this];simp[fI]
  |succ d ih=>
   intro k hk
   obtain⟨e,he⟩:=eH (l:=l) (i:=k) oM
   have ht:(l.take i)[k]?=some e:=by rw[Md oM,he]
   have hd:(l.take i).drop k=e::(l.take i).drop (k+1):=by
    have hlt:=gD ht
    rw[L6 hlt]
    congr 1
    rw[K6 hlt] at ht;simpa using ht
   simp only[fI,xk,he]
   rw[hd,List.any_cons,ih (k+1) oM]
   cases hq:q e<;>simp[hc]
 have:=this i 0 oM
 simpa using this
def Cp (b:UInt8):Bool:=decide (97<=(b.toNat:Int))&&decide ((b.toNat:Int)<=122)
def xl (b:UInt8):Bool:=Cp b||(decide ((b.toNat:Int)=45)||(decide (48<=(b.toNat:Int))&&decide ((b.toNat:Int)<=57)))
def qe:List UInt8:=[97,98,99,100,101,102,103,104,105,106,107,108,109,110,111,112,113,114,115,116,117,118,119,120,121,122,48,49,50,51,52,53,54,55,56,57,45]
theorem Ea:(List.range 256).all (fun n=>qe.contains (UInt8.ofNat n)==xl (UInt8.ofNat n))=true:=by decide+kernel
theorem Gx (b:UInt8):qe.contains b=xl b:=by
 have:=Lj.1 Ea b.toNat (LM.2 b.toNat_lt)
 have hb:UInt8.ofNat b.toNat=b:=by simp
 rw[hb] at this
 simpa using this
theorem Eb (l:List UInt8):decide (Lib.trimS l qe=[])=l.all xl:=by
 rw[LP,K_,Bl,Lj]
 simp only[Gx]
def eA:List UInt8->Bool
 |[]=>false
 |b::l=>decide (l.length<=39)&&Cp b&&l.all xl
theorem mM (l:List UInt8) (hl:l.length<=MX):nT l=some (eA l):=by
 have ht:em l qe=some (Lib.trimS l qe):=by
  unfold em
  rw[if_pos ⟨hl,by decide,by decide⟩]
 have hu:([97,98,99,100,101,102,103,104,105,106,107,108,109,110,111,112,113,114,115,116,117,118,119,120,121,122,48,49,50,51,52,53,54,55,56,57,45]:List UInt8)=qe:=rfl
 unfold nT aR;dsimp only
 rw[hu]
 cases l with
 |nil=>rfl
 |cons b l=>
  have hg:cO (b::l) 0=some b:=rfl
  simp only[hg,K3,eo,ht,Eb,eA]
  have h1:decide (((b::l).length:Int)<1)=false:=by simp only[K7];apply MQ;omega
  have h2:decide (40<((b::l).length:Int))= !decide (l.length<=39):=by simp only[K7];rw[LP];simp<;>omega
  have h3:(decide ((b.toNat:Int)<97)||decide (122<(b.toNat:Int)))= !Cp b:=by unfold Cp;rw[LP];simp
  rw[h1,h2,Mh,Bool.or_assoc,h3]
  cases hb:Cp b with
  |false=>simp
  |true=>cases decide (l.length<=39)<;>simp[xl,hb]

theorem H0 (n k:Nat):decide ((k:Int)<(n:Int))=decide (k<n):=by congr 1;apply propext;omega

theorem ly {α:Type} {h:α->Int}:∀ {l:List α},(∀ e∈l,h e=0)->ic h l=0
 |[],_=>rfl
 |e::l,hl=>by
  unfold ic
  rw[if_pos (hl e oS)]
  exact ly fun e he=>hl e (by simp[he])
theorem Bh {l:List (List UInt8)}:Ck l=0↔(1<=l.length/\l.length<=20/\∀ t∈l,mw t=0):=by
 unfold Ck
 by_cases h1:l.length=0
 ·simp[h1]
 ·by_cases h2:20<l.length
  ·simp[h1,h2];omega
  ·rw[if_neg h1,if_neg h2]
   exact⟨fun h=>⟨by omega,by omega,eU h⟩,fun h=>ly h.2.2⟩
theorem yI {e:ax}:nv e=0↔(1<=e.fRepeats.length/\e.fRepeats.length<=20/\∀ t∈e.fRepeats,Ck t=0):=by
 unfold nv
 by_cases h1:e.fRepeats.length=0
 ·simp[h1]
 ·by_cases h2:20<e.fRepeats.length
  ·simp[h1,h2];omega
  ·rw[if_neg h1,if_neg h2]
   exact⟨fun h=>⟨by omega,by omega,eU h⟩,fun h=>ly h.2.2⟩
theorem Bi {s:aa}:sC s=0↔(uU s.fTag=true/\s.fElements.length<=50/\∀ e∈s.fElements,nv e=0):=by
 unfold sC
 by_cases h1:uU s.fTag=false
 ·simp[h1]
 ·by_cases h2:50<s.fElements.length
  ·simp[h1,h2];intro h;omega
  ·rw[if_neg h1,if_neg h2]
   exact⟨fun h=>⟨by simpa using h1,by omega,eU h⟩,fun h=>ly h.2.2⟩
theorem Jc {s:aa} (h:sC s=0):qc s:=by
 obtain⟨_,h2,h3⟩:=Bi.1 h
 refine⟨by omega,fun e he=> ?_⟩
 obtain⟨_,h5,h6⟩:=yI.1 (h3 e he)
 refine⟨by omega,fun p hp=> ?_⟩
 obtain⟨_,h8,_⟩:=Bh.1 (h6 p hp)
 omega
theorem CX {l:List aa} (h:j6 l=0):l.length<=2000/\∀ x∈l,sC x=0:=by
 unfold j6 at h
 by_cases h1:2000<l.length
 ·simp[h1] at h
 ·rw[if_neg h1] at h;exact⟨by omega,eU h⟩
end Go.Proofs.YtgmnipfafmphaaaGreatDoor

namespace Go.Proofs.YtgmnipfafmphaaaGreatDoor
open Go.RowKit
set_option linter.unusedSimpArgs false
set_option linter.unusedVariables false
abbrev Ms:=aD
abbrev Gp:=aU
abbrev Ix:=aG
structure JZ (m:Ms):Prop where
 ref:m.fRef.length<=MX
 kind:m.fKind.length<=MX
 ver:m.fVersion.length<=MX
 len:m.fSegments.length<=1048576
 tags:tH m.fSegments
structure J0 (g:Gp):Prop where
 ref:g.fRef.length<=MX
 kind:g.fKind.length<=MX
 len:g.fMessages.length<=1048576
 msg:∀ m∈g.fMessages,JZ m
structure FS (x:Ix):Prop where
 ref:x.fRef.length<=MX
 snd:x.fSender.length<=MX
 rcv:x.fReceiver.length<=MX
 len:x.fGroups.length<=1048576
 grp:∀ g∈x.fGroups,J0 g
theorem jd {f:Nat->Int}:∀ {n i:Nat},fI f i n=0->∀ j,i<=j->j<i+n->f j=0
 |0,i,_,j,h1,h2=>by omega
 |n+1,i,h,j,h1,h2=>by
  unfold fI at h
  by_cases hz:f i=0
  ·rw[if_neg (by simpa using hz)] at h
   rcases Lx i j with hlt|hge
   ·exact jd h j oM oM
   ·obtain rfl:j=i:=by omega
    exact hz
  ·rw[if_pos hz] at h;exact absurd h hz
theorem FT (l:List Gp) (hl:l.length<=MX) (f1:FuncId) (c1:List DV) (p1:Gp->Option Bool) (h1) (q:Gp->Bool) (hq:∀ a,p1 a=some (q a)):
  aQ l f1 c1 p1 h1=some (l.any q):=by
 unfold MX at hl
 unfold aQ i_;dsimp only
 unfold bK bl;dsimp only
 generalize hf:(fun s:Int=>_)=f
 have key:=n7 (f:=f) (z:= .inl (l.length:Int)) (fun i:Nat=>(i:Int)) l.length (fun i=>match l[i]? with|some o=>if q o=true then some (.inr (i:Int)) else none|none=>none) (fun i hi hg=>by
  subst hf
  obtain⟨e,he⟩:=eH hi
  simp only[he] at hg
  cases hb:q e with
  |true=>simp[hb] at hg
  |false=>simp only[eu hi,Ln,aW,he,K3,hq,hb,LE,ge i oM]) (fun i a hi hg=>by
  subst hf
  obtain⟨e,he⟩:=eH hi
  simp only[he] at hg
  cases hb:q e with
  |false=>simp[hb] at hg
  |true=>
   simp only[hb,LX,K0] at hg
   simp only[eu hi,Ln,aW,he,K3,hq,hb,<-hg];rfl) (by
  subst hf
  simp only[bm,LE];rfl)
 rw[show((0:Nat):Int)=0 from rfl] at key
 rw[key]
 rcases jU (fun i=>match l[i]? with|some o=>if q o=true then some (.inr (i:Int)) else none|none=>(none:Option (Int⊕Int))) l.length with⟨h1,h2⟩|⟨k,a,h1,h2,h3,h4⟩
 ·rw[h1]
  have:l.any q=false:=by
   rw[MJ]
   intro x hx
   obtain⟨i,hi,rfl⟩:=L1.1 hx
   have:=h2 i hi
   simp only[K6 hi] at this
   intro hb;simp[hb] at this
  rw[this];rfl
 ·rw[h4]
  obtain⟨e,he⟩:=eH h1
  simp only[he] at h3
  cases hb:q e with
  |false=>simp[hb] at h3
  |true=>
   simp only[hb,LX,K0] at h3
   have:l.any q=true:=MN.2 ⟨e,K8 he,hb⟩
   rw[this,<-h3]
   simp[eg]
theorem FV (l:List Ms) (hl:l.length<=MX) (f1:FuncId) (c1:List DV) (p1:Ms->Option Bool) (h1) (q:Ms->Bool) (hq:∀ a,p1 a=some (q a)):
  aI l f1 c1 p1 h1=some (l.any q):=by
 unfold MX at hl
 unfold aI i_;dsimp only
 unfold bq bl;dsimp only
 generalize hf:(fun s:Int=>_)=f
 have key:=n7 (f:=f) (z:= .inl (l.length:Int)) (fun i:Nat=>(i:Int)) l.length (fun i=>match l[i]? with|some o=>if q o=true then some (.inr (i:Int)) else none|none=>none) (fun i hi hg=>by
  subst hf
  obtain⟨e,he⟩:=eH hi
  simp only[he] at hg
  cases hb:q e with
  |true=>simp[hb] at hg
  |false=>simp only[eu hi,Ln,aW,he,K3,hq,hb,LE,ge i oM]) (fun i a hi hg=>by
  subst hf
  obtain⟨e,he⟩:=eH hi
  simp only[he] at hg
  cases hb:q e with
  |false=>simp[hb] at hg
  |true=>
   simp only[hb,LX,K0] at hg
   simp only[eu hi,Ln,aW,he,K3,hq,hb,<-hg];rfl) (by
  subst hf
  simp only[bm,LE];rfl)
 rw[show((0:Nat):Int)=0 from rfl] at key
 rw[key]
 rcases jU (fun i=>match l[i]? with|some o=>if q o=true then some (.inr (i:Int)) else none|none=>(none:Option (Int⊕Int))) l.length with⟨h1,h2⟩|⟨k,a,h1,h2,h3,h4⟩
 ·rw[h1]
  have:l.any q=false:=by
   rw[MJ]
   intro x hx
   obtain⟨i,hi,rfl⟩:=L1.1 hx
   have:=h2 i hi
   simp only[K6 hi] at this
   intro hb;simp[hb] at this
  rw[this];rfl
 ·rw[h4]
  obtain⟨e,he⟩:=eH h1
  simp only[he] at h3
  cases hb:q e with
  |false=>simp[hb] at h3
  |true=>
   simp only[hb,LX,K0] at h3
   have:l.any q=true:=MN.2 ⟨e,K8 he,hb⟩
   rw[this,<-h3]
   simp[eg]
theorem nY (l:List (List UInt8)) (t:List UInt8) (hl:l.length<=1048576):be l t=some (l.any fun e=>decide (t=e)):=by
 unfold be bl;dsimp only
 unfold cZ gX;dsimp only
 generalize hf:(fun s:Int=>_)=f
 have key:=n7 (f:=f) (z:= .inl (l.length:Int)) (fun i:Nat=>(i:Int)) l.length (fun i=>match l[i]? with|some o=>if t=o then some (.inr (i:Int)) else none|none=>none) (fun i hi hg=>by
  subst hf
  obtain⟨e,he⟩:=eH hi
  simp only[he] at hg
  have hb:¬ t=e:=fun h=>by simp[h] at hg
  simp only[eu hi,Ln,aW,he,K3,hb,M9,LE,ge i oM]) (fun i a hi hg=>by
  subst hf
  obtain⟨e,he⟩:=eH hi
  simp only[he] at hg
  by_cases hb:t=e
  ·simp only[hb,LX,K0] at hg
   simp only[eu hi,Ln,aW,he,K3,hb,MK,<-hg];rfl
  ·simp[hb] at hg) (by
  subst hf
  simp only[bm,LE];rfl)
 rw[show((0:Nat):Int)=0 from rfl] at key
 rw[key]
 rcases jU (fun i=>match l[i]? with|some o=>if t=o then some (.inr (i:Int)) else none|none=>(none:Option (Int⊕Int))) l.length with⟨h1,h2⟩|⟨k,a,h1,h2,h3,h4⟩
 ·rw[h1]
  have:(l.any fun e=>decide (t=e))=false:=by
   rw[MJ]
   intro x hx
   obtain⟨i,hi,rfl⟩:=L1.1 hx
   have:=h2 i hi
   simp only[K6 hi] at this
   intro hb
   have hb':=MV hb
   rw[if_pos hb'] at this;cases this
  rw[this];rfl
 ·rw[h4]
  obtain⟨e,he⟩:=eH h1
  simp only[he] at h3
  by_cases hb:t=e
  ·simp only[hb,LX,K0] at h3
   have:(l.any fun e=>decide (t=e))=true:=MN.2 ⟨e,K8 he,Nb hb⟩
   rw[this,<-h3]
   simp[eg]
  ·simp[hb] at h3
def wV:List (List UInt8):=[[73,72,68],[71,72,68],[77,72,68]]
def wW:List (List UInt8):=[[73,84,82],[71,84,82],[77,84,82]]
def uR (t:List UInt8):Bool:=(wV.any fun e=>decide (t=e))||(wW.any fun e=>decide (t=e))
theorem Ja (t:List UInt8):be [[73,72,68],[71,72,68],[77,72,68]] t=some (wV.any fun e=>decide (t=e)):=nY _ t oD
theorem Jb (t:List UInt8):be [[73,84,82],[71,84,82],[77,84,82]] t=some (wW.any fun e=>decide (t=e)):=nY _ t oD
def Ke (a b c:Bool) (fs:Int) (e:Bool):Int:=bif !a then 3 else bif b then 5 else bif c then 7 else bif !decide (fs=0) then fs else bif e then 4 else 0
def Kf (m:Ms) (tw:Bool):Int:=Ke (fx m.fRef) (!eA m.fKind|| !eA m.fVersion) tw (j6 m.fSegments) (m.fSegments.any fun s=>uR s.fTag)
theorem HB:jN=some [[73,72,68],[71,72,68],[77,72,68]]:=by unfold jN aR;dsimp only
theorem HC:jO=some [[73,84,82],[71,84,82],[77,84,82]]:=by unfold jO aR;dsimp only
theorem HD (l:List aa):(if fI (xk l (fun s=>uR s.fTag) 4) 0 l.length=0 then some 0 else some (fI (xk l (fun s=>uR s.fTag) 4) 0 l.length))=some (bif l.any fun s=>uR s.fTag then(4:Int) else 0):=by
 rw[Co l _ 4 oD l.length (K9 _),MB]
 cases l.any fun s=>uR s.fTag<;>rfl
theorem J1 (m:Ms) (h:JZ m) (l:List Ms) (hl:l.length<=MX):ip m l=some (Kf m (l.any fun o=>decide (o.fRef=m.fRef))):=by
 have hlen:=h.len
 have h1:∀ a,gB a m=some (decide (a.fRef=m.fRef)):=fun a=>by unfold gB bl;dsimp only
 unfold ip pd;dsimp only
 simp only[eo,K3,nz _ h.ref,mM _ h.kind,mM _ h.ver,FV l hl _ _ _ _ _ h1,Gc _ h.tags]
 unfold Kf Ke
 cases fx m.fRef with
 |false=>rfl
 |true=>
 cases(!eA m.fKind|| !eA m.fVersion) with
 |true=>rfl
 |false=>
 cases(l.any fun o=>decide (o.fRef=m.fRef)) with
 |true=>rfl
 |false=>
 cases hz:decide (j6 m.fSegments=0) with
 |false=>rfl
 |true=>
 simp only[LG,LE,HB,HC,K3,Ja,Jb,eo]
 refine(zQ (fun i:Nat=>(i:Int)) (n:=m.fSegments.length) (g:=xk m.fSegments (fun s=>uR s.fTag) 4) (fun i hi=> ?_) (by simp only[bm,LE];rfl) _).trans (HD _)
 obtain⟨e,he⟩:=eH hi
 simp only[eu hi,Ln,aW,he,K3,ge i oM,xk]
 change (bif uR e.fTag then _ else _)=_
 by_cases hb:uR e.fTag=true<;>simp[hb,gm]
def DO (l:List Ms) (i:Nat):Int:=match l[i]? with
 |some m=>Kf m ((l.take i).any fun o=>decide (o.fRef=m.fRef))
 |none=>0
def Kg (a b c:Bool) (fm:Int):Int:=bif !a then 3 else bif !b then 5 else bif c then 7 else fm
def Kh (g:Gp) (tw:Bool):Int:=Kg (fx g.fRef) (eA g.fKind) tw (fI (DO g.fMessages) 0 g.fMessages.length)
theorem HE (a:Int):(if a=0 then some 0 else some a)=some a:=by split<;>simp_all
theorem yH {α:Type} (l:List α) {i:Nat} (h:i<=l.length):fB l ((none:Option Int).getD 0) ((some (i:Int)).getD (l.length:Int))=some (l.take i):=pR l i h
theorem J2 (g:Gp) (h:J0 g) (l:List Gp) (hl:l.length<=MX):jL g l=some (Kh g (l.any fun o=>decide (o.fRef=g.fRef))):=by
 have hlen:=h.len
 have h1:∀ a,io a g=some (decide (a.fRef=g.fRef)):=fun a=>by unfold io bl;dsimp only
 unfold jL pe;dsimp only
 simp only[K3,nz _ h.ref,mM _ h.kind,FT l hl _ _ _ _ _ h1]
 unfold Kh Kg
 cases fx g.fRef with
 |false=>rfl
 |true=>
 cases eA g.fKind with
 |false=>rfl
 |true=>
 cases(l.any fun o=>decide (o.fRef=g.fRef)) with
 |true=>rfl
 |false=>
 simp only[LG,LE]
 refine(zQ (fun i:Nat=>(i:Int)) (n:=g.fMessages.length) (g:=DO g.fMessages) (fun i hi=> ?_) (by simp only[bm,LE];rfl) _).trans (HE _)
 obtain⟨e,he⟩:=eH hi
 have hs:=h.msg e (K8 he)
 simp only[eu hi,Ln,aW,he,K3,yH g.fMessages (Nat.le_of_lt hi),J1 e hs _ (show(g.fMessages.take i).length<=MX by rw[Lb];unfold MX;omega),ge i oM,DO]
 generalize Kf e _=a
 by_cases ha:a=0<;>simp[ha,gm]
def Bf (l:List Gp) (i:Nat):Int:=match l[i]? with
 |some g=>Kh g ((l.take i).any fun o=>decide (o.fRef=g.fRef))
 |none=>0
def wX (l:List Ms) (n:Int):Int:=l.foldl (fun n m=>IntKind.i64.wrap (n+IntKind.i64.wrap (2+(m.fSegments.length:Int)))) n
def tD (l:List Gp):Int×Int:=l.foldl (fun s g=>(IntKind.i64.wrap (s.1+(g.fMessages.length:Int)),wX g.fMessages (IntKind.i64.wrap (s.2+2)))) (0,2)
def Ki (a b c d:Bool) (fg:Int) (e:Bool):Int:=bif !a then 3 else bif b then 5 else bif c then 1 else bif d then 2 else if fg=0 then(bif e then 2 else 0) else fg
def Ip (x:Ix):Int:=Ki (fx x.fRef) (!eA x.fSender|| !eA x.fReceiver) (kB x.fDay 1 3652059||kB x.fSecond 0 86399) (decide (50<x.fGroups.length)) (fI (Bf x.fGroups) 0 x.fGroups.length)
 (decide (200<(tD x.fGroups).1)||decide (2000<(tD x.fGroups).2))
theorem FW (l:List Ms) (hl:l.length<=1048576) (n:Int) {R:Type} {f:Int×Int->Option ((Int×Int)⊕((Int×Int)⊕R))} (K:Int×Int->Option R)
  (hf:∀ (i:Nat) e (a:Int),l[i]?=some e->f (a,(i:Int))=some (.inl (IntKind.i64.wrap (a+IntKind.i64.wrap (2+(e.fSegments.length:Int))),((i+1:Nat):Int)))) (he:∀ a,f (a,(l.length:Int))=some (.inr (.inl (a,(l.length:Int))))):
  (bg f (n,0)).bind (eg K)=K (wX l n,(l.length:Int)):=by
 refine kx (a:= .inl (wX l n,(l.length:Int))) (sA l (fun i q=>(wX q n,(i:Int))) (fun i e h=> ?_) (he _)) rfl
 rw[hf i e _ h]
 unfold wX
 rw[List.foldl_append];rfl
theorem FX (x:Ix) (h:FS x):mE x=some (tD x.fGroups):=by
 have hlen:=h.len
 unfold mE bl;dsimp only
 refine kx (a:= .inl ((tD x.fGroups).1,(tD x.fGroups).2,(x.fGroups.length:Int))) (sA x.fGroups (fun i q=>((tD q).1,(tD q).2,(i:Int))) (fun i e he=> ?_) (by simp only[bm,LE];rfl)) rfl
 have hi:=gD he
 have hg:=(h.grp e (K8 he)).len
 simp only[eu hi,Ln,aW,he,K3]
 refine(FW e.fMessages hg _ _ (fun k m a hm=> ?_) (fun a=>by simp only[bm,LE];rfl)).trans ?_
 ·have hk:=gD hm
  simp only[eu hk,Ln,aW,hm,K3,ge k oM]
 ·simp only[ge i oM]
  unfold tD
  rw[List.foldl_append];rfl
theorem Kx (x:Ix) (h:FS x):f_ x=some (Ip x):=by
 have hlen:=h.len
 have hday:kM x.fDay=some (!kB x.fDay 1 3652059):=by unfold kM dk;dsimp only;simp only[xj,Option.bind_some]
 unfold f_ pg;dsimp only
 rw[show decide ((50:Int)<(x.fGroups.length:Int))=decide (50<x.fGroups.length) from H0 x.fGroups.length 50]
 simp only[K3,eo,nz _ h.ref,mM _ h.snd,mM _ h.rcv,hday,xj,Bool.not_not,FX x h]
 unfold Ip Ki
 cases fx x.fRef with
 |false=>rfl
 |true=>
 cases(!eA x.fSender|| !eA x.fReceiver) with
 |true=>rfl
 |false=>
 cases(kB x.fDay 1 3652059||kB x.fSecond 0 86399) with
 |true=>rfl
 |false=>
 cases decide (50<x.fGroups.length) with
 |true=>rfl
 |false=>
 simp only[LG,LE]
 refine(zQ (fun i:Nat=>(i:Int)) (n:=x.fGroups.length) (g:=Bf x.fGroups) (fun i hi=> ?_) (by simp only[bm,LE];rfl) _).trans ?_
 ·obtain⟨e,he⟩:=eH hi
  have hs:=h.grp e (K8 he)
  simp only[eu hi,Ln,aW,he,K3,yH x.fGroups (Nat.le_of_lt hi),J2 e hs _ (show(x.fGroups.take i).length<=MX by rw[Lb];unfold MX;omega),ge i oM,Bf]
  generalize Kh e _=a
  by_cases ha:a=0<;>simp[ha,gm]
 ·by_cases hq:fI (Bf x.fGroups) 0 x.fGroups.length=0
  ·rw[if_pos hq,if_pos hq]
   cases decide (200<(tD x.fGroups).1)<;>cases decide (2000<(tD x.fGroups).2)<;>rfl
  ·rw[if_neg hq,if_neg hq]
def FY (l:List aa):Prop:=l.length<=137438953472/\∀ s∈l,qc s
theorem HF {l:List aa} (h:j6 l=0):FY l:=by
 obtain⟨h1,h2⟩:=CX h
 exact⟨by omega,fun s hs=>Jc (h2 s hs)⟩
theorem Bg (l:List aa) (h:FY l):kS l=some l:=by
 obtain⟨h1,h2⟩:=h
 have hc:am l=some l:=by
  unfold am
  rw[if_pos h1]
 unfold kS bl;dsimp only
 rw[hc]
 simp only[K3]
 refine kx (a:= .inl (l,(l.length:Int))) (n0 (fun i:Nat=>(l,(i:Int))) l.length (fun i hi=> ?_) ?_) rfl
 ·obtain⟨e,he⟩:=eH hi
  have hm:jT e=some e:=by unfold jT;rw[if_pos (h2 e (K8 he))]
  have hs:l.set i e=l:=by
   obtain⟨hi',rfl⟩:=K5.1 he
   exact List.set_getElem_self hi'
  simp only[eu hi,Ln,aW,he,K3,Mo,hm,hs,ge i oM]
 ·simp only[bm,LE];rfl
theorem Bb {a b c d e:Bool} {fg:Int} (h:Ki a b c d fg e=0):a=true/\b=false/\c=false/\d=false/\fg=0/\e=false:=by
 unfold Ki at h
 cases a<;>cases b<;>cases c<;>cases d<;>first|(cases h;done)|skip
 by_cases hz:fg=0
 ·cases e
  ·exact⟨rfl,rfl,rfl,rfl,hz,rfl⟩
  ·simp[hz] at h
 ·simp[hz] at h
theorem wQ {a b c:Bool} {fm:Int} (h:Kg a b c fm=0):a=true/\b=true/\c=false/\fm=0:=by
 unfold Kg at h
 cases a<;>cases b<;>cases c<;>first|(cases h;done)|exact⟨rfl,rfl,rfl,h⟩
theorem Bc {a b c e:Bool} {fs:Int} (h:Ke a b c fs e=0):a=true/\b=false/\c=false/\fs=0/\e=false:=by
 unfold Ke at h
 cases a<;>cases b<;>cases c<;>first|(cases h;done)|skip
 by_cases hz:fs=0
 ·cases e
  ·exact⟨rfl,rfl,rfl,hz,rfl⟩
  ·simp[hz] at h
 ·simp[hz] at h
structure KR (m:Ms):Prop where
 ref:fx m.fRef=true
 kind:eA m.fKind=true
 ver:eA m.fVersion=true
 segs:j6 m.fSegments=0
 env:∀ s∈m.fSegments,uR s.fTag=false
structure KS (g:Gp):Prop where
 ref:fx g.fRef=true
 kind:eA g.fKind=true
 msg:∀ m∈g.fMessages,KR m
structure Kd (x:Ix):Prop where
 ref:fx x.fRef=true
 snd:eA x.fSender=true
 rcv:eA x.fReceiver=true
 day:kB x.fDay 1 3652059=false
 sec:kB x.fSecond 0 86399=false
 len:x.fGroups.length<=50
 grp:∀ g∈x.fGroups,KS g
 many:(tD x.fGroups).1<=200
 segs:(tD x.fGroups).2<=2000
theorem qa {a b:Bool} (h:(a||b)=false):a=false/\b=false:=by cases a<;>cases b<;>first|exact⟨rfl,rfl⟩|cases h
theorem nX {a:Bool} (h:(!a)=false):a=true:=by cases a<;>first|rfl|cases h
theorem FN {l:List Ms} {i:Nat} {m:Ms} (hm:l[i]?=some m) (h:DO l i=0):KR m:=by
 unfold DO at h
 simp only[hm] at h
 obtain⟨h1,h2,_,h4,h5⟩:=Bc h
 obtain⟨k1,k2⟩:=qa h2
 refine⟨h1,nX k1,nX k2,h4,fun s hs=> ?_⟩
 cases hb:uR s.fTag with
 |false=>rfl
 |true=>rw[MJ] at h5;exact absurd hb (h5 s hs)
theorem FO {l:List Gp} {i:Nat} {g:Gp} (hg:l[i]?=some g) (h:Bf l i=0):KS g:=by
 unfold Bf at h
 simp only[hg] at h
 obtain⟨h1,h2,_,h4⟩:=wQ h
 refine⟨h1,h2,fun m hm=> ?_⟩
 obtain⟨k,hk,rfl⟩:=L1.1 hm
 exact FN (K6 hk) (jd h4 k oM oM)
theorem wR {x:Ix} (h:Ip x=0):Kd x:=by
 obtain⟨h1,h2,h3,h4,h5,h6⟩:=Bb h
 obtain⟨k1,k2⟩:=qa h2
 obtain⟨k3,k4⟩:=qa h3
 obtain⟨k5,k6⟩:=qa h6
 refine⟨h1,nX k1,nX k2,k3,k4,by have:=of_decide_eq_false h4;omega,fun g hg=> ?_,by have:=of_decide_eq_false k5;omega,by have:=of_decide_eq_false k6;omega⟩
 obtain⟨k,hk,rfl⟩:=L1.1 hg
 exact FO (K6 hk) (jd h5 k oM oM)
abbrev Hy (tag:List UInt8) (ts:List (List UInt8)):aa:=⟨tag,ts.map Iy⟩
def Bd (m:Ms):List aa:=Hy [77,72,68] [m.fRef,m.fKind,m.fVersion]::(m.fSegments++[Hy [77,84,82] [Lib.itoa ((m.fSegments.length:Int)+2),m.fRef]])
def zM (g:Gp):List aa:=Hy [71,72,68] [g.fRef,g.fKind]::(g.fMessages.flatMap Bd++[Hy [71,84,82] [Lib.itoa (g.fMessages.length:Int),g.fRef]])
def rp (x:Ix):List aa:=
 Hy [73,72,68] [x.fRef,x.fSender,x.fReceiver,Lib.itoa x.fDay,Lib.itoa x.fSecond,bif x.fTest then[49] else[]]::(x.fGroups.flatMap zM++[Hy [73,84,82] [Lib.itoa (x.fGroups.length:Int),x.fRef]])
theorem kr (m:Ms):(Bd m).length=m.fSegments.length+2:=by unfold Bd;simp
theorem ku (g:Gp):(zM g).length=(g.fMessages.flatMap Bd).length+2:=by unfold zM;simp only[K7,K4,Lf]
theorem lZ (x:Ix):(rp x).length=(x.fGroups.flatMap zM).length+2:=by unfold rp;simp only[K7,K4,Lf]
theorem Hz (m:Ms):(Bd m).length<=eK (aq m):=by
 have h1:=ry (l:=m.fSegments) (row:=af) (f:=fun a=>[a]) (fun a _=>by simp only[af,eK,xn,Mc];omega)
 have h2:(m.fSegments.flatMap fun a=>[a]).length=m.fSegments.length:=by simp
 rw[kr]
 simp only[aq,eK,xn]
 omega
theorem HA (g:Gp):(zM g).length<=eK (aE g):=by
 have h1:=ry (l:=g.fMessages) (row:=aq) (f:=Bd) (fun a _=>Hz a)
 rw[ku]
 simp only[aE,eK,xn]
 omega
theorem vg (x:Ix):(rp x).length<=eK (ay x):=by
 have h1:=ry (l:=x.fGroups) (row:=aE) (f:=zM) (fun a _=>HA a)
 rw[lZ]
 simp only[ay,eK,xn]
 omega
theorem zN (tag:List UInt8) (n:Int) (ref:List UInt8) (h:i64 n):pk tag n ref=some (Hy tag [Lib.itoa n,ref]):=by
 unfold pk pj;dsimp only
 simp only[yX h,K3,uX tag [Lib.itoa n,ref] oS]
structure Jt (x:Ix):Prop where
 day:i64 x.fDay
 sec:i64 x.fSecond
 len:(rp x).length<=1048576
theorem wS {g:Gp}:g.fMessages.length<=(g.fMessages.flatMap Bd).length:=by
 induction g.fMessages with
 |nil=>simp
 |cons m l ih=>simp only[L_,K4,K7,kr];omega
theorem wT {x:Ix}:x.fGroups.length<=(x.fGroups.flatMap zM).length:=by
 induction x.fGroups with
 |nil=>simp
 |cons m l ih=>simp only[L_,K4,K7,ku];omega
set_option maxHeartbeats 1000000 in
theorem Cc (x:Ix) (hn:Jt x) (hr:Kd x):kU x=some (rp x):=by
 have hlen:=vg x
 have hb:=hn.len
 have hl2:=lZ x
 have hg:=wT (x:=x)
 unfold kU pm;dsimp only
 have hc:∀ t:List UInt8,kL [73,72,68] [x.fRef,x.fSender,x.fReceiver,Lib.itoa x.fDay,Lib.itoa x.fSecond,t]=some (Hy [73,72,68] [x.fRef,x.fSender,x.fReceiver,Lib.itoa x.fDay,Lib.itoa x.fSecond,t]):=fun t=>uX _ _ oS
 cases ht:x.fTest
 all_goals
  simp only[Ln,LE,yX hn.day,yX hn.sec,K3,hc]
  refine(Ae x.fGroups [_] zM 1048576 (by simp only[K4,Mc];omega) _ ?_ ?_).trans ?_
  rotate_left
  ·intro out;simp only[bm,LE];rfl
  ·simp only[eg,zN [73,84,82] (x.fGroups.length:Int) x.fRef ⟨by omega,by omega⟩,K3]
   rw[l3 (by simp only[K4,Mc,K7,Lf];omega)]
   unfold rp;rw[ht];rfl
  intro i g out hi ho
  have hil:=gD hi
  have hgr:=hr.grp g (K8 hi)
  rw[ku] at ho
  have hms:=wS (g:=g)
  simp only[eu hil,Ln,aW,hi,K3,uX [71,72,68] [g.fRef,g.fKind] oS,ge i oM]
  rw[l3 (by simp only[K7,Lf];omega)]
  refine(Ae g.fMessages (out++[_]) Bd 1048576 (by simp only[K4,Mc];omega) _ ?_ ?_).trans ?_
  rotate_left
  ·intro out;simp only[bm,LE];rfl
  ·simp only[eg,zN [71,84,82] (g.fMessages.length:Int) g.fRef ⟨by omega,by omega⟩,K3]
   rw[l3 (by simp only[K4,Mc,K7,Lf];omega)]
   simp[zM,Lc]
  intro k m o hk hol
  have hkl:=gD hk
  have hmr:=hgr.msg m (K8 hk)
  rw[kr] at hol
  simp only[eu hkl,Ln,aW,hk,K3,uX [77,72,68] [m.fRef,m.fKind,m.fVersion] oS,Bg _ (HF hmr.segs),ge k oM,aZ ((m.fSegments.length:Int)+2) oM oM,zN [77,84,82] ((m.fSegments.length:Int)+2) m.fRef ⟨by omega,by omega⟩]
  rw[l3 (by simp only[K7,Lf];omega),l3 (by simp only[K4,K7,Lf];omega),l3 (by simp only[K4,K7,Lf];omega)]
  simp[Bd,Lc]
set_option maxHeartbeats 1000000 in
theorem wU {t:List UInt8} (h1:t.length<=1000) (h2:∀ b∈t,uT b=false):mw t=0:=by
 unfold mw
 rw[if_neg oM]
 have:t.findSome? (fun x=>if uT x=true then some (3:Int) else none)=none:=by
  rw[List.findSome?_eq_none_iff]
  intro b hb
  rw[h2 b hb];rfl
 rw[this]
theorem FP:∀ b∈tJ,uT b=false:=by decide
theorem nq {t:List UInt8} (h:fx t=true):mw t=0:=by
 unfold fx at h
 simp only[K1,K_,Lj] at h
 refine wU oM fun b hb=> ?_
 have:=h.2 b hb
 unfold zP at this
 exact FP b (by simpa using this)
theorem Be {b:UInt8} (h:Cp b=true):uT b=false:=by
 unfold Cp at h;unfold uT
 simp only[K1,K_] at h
 simp only[L7,Lp]
 omega
theorem Cd {b:UInt8} (h:xl b=true):uT b=false:=by
 unfold xl at h
 simp only[LV,K1,K_] at h
 rcases h with h|h
 ·exact Be h
 ·unfold uT
  simp only[L7,Lp]
  omega
theorem nr {t:List UInt8} (h:eA t=true):mw t=0:=by
 cases t with
 |nil=>rfl
 |cons b l=>
  unfold eA at h
  simp only[K1,K_,Lj] at h
  refine wU (by simp only[K7];omega) fun c hc=> ?_
  rcases Li.1 hc with rfl|hc
  ·exact Be h.1.2
  ·exact Cd (h.2 c hc)
theorem FQ:∀ (u:Nat),∀ b∈Lib.decDigits u,48<=b.toNat/\b.toNat<=57:=by
 intro u
 induction u using Nat.strongRecOn with
 |_ u ih=>
  intro b hb
  rw[Lib.decDigits] at hb
  have hd:∀ k,k<10->(UInt8.ofNat (48+k)).toNat=48+k:=fun k hk=>by rw[MM (by show 48+k<256;omega)]
  split at hb
  ·rename_i h
   simp only[LA] at hb;subst hb
   rw[hd u h];omega
  ·rename_i h
   rcases Le.1 hb with hb|hb
   ·exact ih (u/10) oM b hb
   ·simp only[LA] at hb;subst hb
    rw[hd (u%10) oM];omega
theorem nu {n:Int} (h:i64 n):mw (Lib.itoa n)=0:=by
 have hl:=Lib.itoa_length_le n h.1 h.2
 have hd:∀ (u:Nat) (b:UInt8),b∈Lib.decDigits u->uT b=false:=fun u b hb=>by
  have:=FQ u b hb
  unfold uT
  simp only[L7,Lp]
  omega
 refine wU oM fun b hb=> ?_
 unfold Lib.itoa at hb
 split at hb
 ·rcases Li.1 hb with rfl|hb
  ·rfl
  ·exact hd _ b hb
 ·exact hd _ b hb
theorem lw {tag:List UInt8} {ts:List (List UInt8)} (ht:uU tag=true) (hl:ts.length<=50) (hs:∀ t∈ts,mw t=0):sC (Hy tag ts)=0:=by
 refine Bi.2 ⟨ht,by simpa using hl,fun e he=> ?_⟩
 obtain⟨t,htm,rfl⟩:=Lt.1 he
 refine yI.2 ⟨by simp[Iy],by simp[Iy],fun p hp=> ?_⟩
 simp only[Iy,LA] at hp
 subst hp
 exact Bh.2 ⟨by simp,by simp,fun q hq=>by simp only[LA] at hq;subst hq;exact hs q htm⟩
theorem JY {P:List UInt8->Prop} {a b c:List UInt8} (ha:P a) (hb:P b) (hc:P c):∀ t∈[a,b,c],P t:=by
 intro t ht;simp at ht;rcases ht with rfl|rfl|rfl<;>assumption
theorem two {P:List UInt8->Prop} {a b:List UInt8} (ha:P a) (hb:P b):∀ t∈[a,b],P t:=by
 intro t ht;simp at ht;rcases ht with rfl|rfl<;>assumption
theorem CV {x:Ix} (hn:Jt x) (hr:Kd x):∀ s∈rp x,sC s=0:=by
 have hlen:=vg x
 have hb:=hn.len
 have hl2:=lZ x
 have hg:=wT (x:=x)
 intro s hs
 unfold rp at hs
 rcases Li.1 hs with rfl|hs
 ·refine lw oD oS fun t ht=> ?_
  simp at ht
  rcases ht with rfl|rfl|rfl|rfl|rfl|rfl
  ·exact nq hr.ref
  ·exact nr hr.snd
  ·exact nr hr.rcv
  ·exact nu hn.day
  ·exact nu hn.sec
  ·cases x.fTest<;>rfl
 ·rcases Le.1 hs with hs|hs
  ·obtain⟨g,hgm,hs⟩:=List.mem_flatMap.1 hs
   have hgr:=hr.grp g hgm
   have hgl:(zM g).length<=(x.fGroups.flatMap zM).length:=by
    obtain⟨i,hi,rfl⟩:=L1.1 hgm
    exact rz (K6 hi)
   rw[ku] at hgl
   have hms:=wS (g:=g)
   unfold zM at hs
   rcases Li.1 hs with rfl|hs
   ·exact lw oD oS (two (nq hgr.ref) (nr hgr.kind))
   ·rcases Le.1 hs with hs|hs
    ·obtain⟨m,hmm,hs⟩:=List.mem_flatMap.1 hs
     have hmr:=hgr.msg m hmm
     have hml:(Bd m).length<=(g.fMessages.flatMap Bd).length:=by
      obtain⟨i,hi,rfl⟩:=L1.1 hmm
      exact rz (K6 hi)
     rw[kr] at hml
     unfold Bd at hs
     rcases Li.1 hs with rfl|hs
     ·exact lw oD oS (JY (nq hmr.ref) (nr hmr.kind) (nr hmr.ver))
     ·rcases Le.1 hs with hs|hs
      ·exact(CX hmr.segs).2 s hs
      ·simp only[LA] at hs;subst hs
       exact lw oD oS (two (nu ⟨by omega,by omega⟩) (nq hmr.ref))
    ·simp only[LA] at hs;subst hs
     exact lw oD oS (two (nu ⟨by omega,by omega⟩) (nq hgr.ref))
  ·simp only[LA] at hs;subst hs
   exact lw oD oS (two (nu ⟨by omega,by omega⟩) (nq hr.ref))
theorem CW:∀ (l:List Ms) (n:Int),0<=n->n+((l.flatMap Bd).length:Int)<=1000000000->wX l n=n+((l.flatMap Bd).length:Int)
 |[],n,_,_=>by simp[wX]
 |m::l,n,h0,h=>by
  simp only[L_,K4,kr] at h⊢
  have e:wX (m::l) n=wX l (IntKind.i64.wrap (n+IntKind.i64.wrap (2+(m.fSegments.length:Int)))):=rfl
  rw[e,aZ (2+(m.fSegments.length:Int)) oM oM,aZ _ oM oM,CW l _ oM oM]
  omega
theorem FR:∀ (l:List Gp) (a b:Int),0<=b->b+((l.flatMap zM).length:Int)<=1000000000->
  (l.foldl (fun s g=>(IntKind.i64.wrap (s.1+(g.fMessages.length:Int)),wX g.fMessages (IntKind.i64.wrap (s.2+2)))) (a,b)).2=b+((l.flatMap zM).length:Int)
 |[],a,b,_,_=>by simp
 |g::l,a,b,h0,h=>by
  simp only[L_,K4,ku] at h⊢
  rw[List.foldl_cons]
  have e:wX g.fMessages (IntKind.i64.wrap (b+2))=b+2+((g.fMessages.flatMap Bd).length:Int):=by
   rw[aZ _ oM oM,CW _ _ oM oM]
  rw[FR l _ _ (by simp only[e];omega) (by simp only[e];omega)]
  simp only[e];omega
theorem DN {x:Ix} (hn:Jt x) (hr:Kd x):j6 (rp x)=0:=by
 have hlen:=vg x
 have hb:=hn.len
 have hl2:=lZ x
 have hc:(tD x.fGroups).2=2+((x.fGroups.flatMap zM).length:Int):=FR x.fGroups 0 2 oM oM
 have:=hr.segs
 unfold j6
 rw[if_neg oM]
 exact ly (CV hn hr)
theorem sF {α:Type} {row:α->List DV} (h:∀ a,1<=eK (row a)):∀ (l:List α),l.length<=oq (l.map row)
 |[]=>by simp
 |x::l=>by
  have h1:=h x
  have h2:=sF h l
  simp only[Lh,oq,K7]
  omega
theorem xi {r:List DV}:∀ {rows:List (List DV)},r∈rows->eK r<=oq rows
 |[],h=>by cases h
 |x::rows,h=>by
  simp only[oq]
  rcases Li.1 h with rfl|h
  ·omega
  ·have:=xi h;omega
theorem Ka (x:Ix) (o:gk x) (hb:eK (ay x)<=1048576):FS x:=by
 obtain⟨o1,o2,o3,_,_,_,o7⟩:=o
 have h0:x.fGroups.length<=oq (x.fGroups.map aE):=sF (fun m=>by simp only[aE,eK,xn];omega) _
 simp only[ay,eK,xn] at hb
 refine⟨o1,o2,o3,by omega,fun g hg=> ?_⟩
 obtain⟨g1,g2,g3⟩:=o7.2 g hg
 have h1:eK (aE g)<=oq (x.fGroups.map aE):=xi (MA hg)
 have h2:g.fMessages.length<=oq (g.fMessages.map aq):=sF (fun m=>by simp only[aq,eK,xn];omega) _
 simp only[aE,eK,xn] at h1
 refine⟨g1,g2,by omega,fun m hm=> ?_⟩
 obtain⟨m1,m2,m3,m4⟩:=g3.2 m hm
 have h3:eK (aq m)<=oq (g.fMessages.map aq):=xi (MA hm)
 have h4:m.fSegments.length<=oq (m.fSegments.map af):=sF (fun m=>by simp only[af,eK,xn];omega) _
 simp only[aq,eK,xn] at h3
 exact⟨m1,m2,m3,by omega,fun s hs=>(m4.2 s hs).1⟩
theorem KO (x:Ix) (o:gk x) (hb:eK (ay x)<=1048576):Jt x:=⟨o.2.2.2.1,o.2.2.2.2.1,LO (vg x) hb⟩
theorem vh {X S A R:Type} {f:S->Option (S⊕A)} {k:A->Option R} {c:Option R} (st:X->S) (μ:X->Nat) (P:X->Prop)
  (h:∀ x,P x->(∃ y,P y/\μ y<μ x/\f (st x)=some (.inl (st y)))\/(∃ a,f (st x)=some (.inr a)/\k a=c)) (x:X) (hx:P x):(bg f (st x)).bind k=c:=by
 have:∀ n x,μ x<=n->P x->(bg f (st x)).bind k=c:=by
  intro n
  induction n with
  |zero=>
   intro x hn hx
   rcases h x hx with⟨y,_,h2,_⟩|⟨a,h1,h2⟩
   ·omega
   ·rw[cC,h1];exact h2
  |succ n ih=>
   intro x hn hx
   rcases h x hx with⟨y,h1,h2,h3⟩|⟨a,h1,h2⟩
   ·rw[cC,h3];exact ih y oM h1
   ·rw[cC,h1];exact h2
 exact this (μ x) x (K9 _) hx
theorem F7 {X S A R:Type} {f:S->Option (S⊕A)} {k:A->Option R} {C:R->Prop} (st:X->S) (μ:X->Nat) (P:X->Prop)
  (h:∀ x,P x->(∃ y,P y/\μ y<μ x/\f (st x)=some (.inl (st y)))\/(∃ a c,f (st x)=some (.inr a)/\k a=some c/\C c)) (x:X) (hx:P x):∃ c,(bg f (st x)).bind k=some c/\C c:=by
 have:∀ n x,μ x<=n->P x->∃ c,(bg f (st x)).bind k=some c/\C c:=by
  intro n
  induction n with
  |zero=>
   intro x hn hx
   rcases h x hx with⟨y,_,h2,_⟩|⟨a,c,h1,h2,h3⟩
   ·omega
   ·rw[cC,h1];exact⟨c,h2,h3⟩
  |succ n ih=>
   intro x hn hx
   rcases h x hx with⟨y,h1,h2,h3⟩|⟨a,c,h1,h2,h3⟩
   ·rw[cC,h3];exact ih y oM h1
   ·rw[cC,h1];exact⟨c,h2,h3⟩
 exact this (μ x) x (K9 _) hx
theorem DS {α R:Type} (l:List α) (q:α->Bool) (a:R) {f:Int->Option (Int⊕(Int⊕R))} {K:Int->Option R}
  (hb:∀ (i:Nat) (e:α),l[i]?=some e->f (i:Int)=if q e=true then some (.inl ((i+1:Nat):Int)) else some (.inr (.inr a))) (he:f (l.length:Int)=some (.inr (.inl (l.length:Int)))):
  (bg f 0).bind (eg K)=if l.all q=true then K (l.length:Int) else some a:=by
 refine vh (X:=Nat) (fun i=>((i:Nat):Int)) (fun i=>l.length - i) (fun i=>i<=l.length/\(l.take i).all q=true) ?_ 0 ⟨LT _,rfl⟩
 rintro i ⟨h1,h2⟩
 rcases Lx i l.length with hi|hi
 ·obtain⟨e,hx⟩:=eH hi
  cases hq:q e with
  |true=>
   refine .inl ⟨i+1,⟨hi, ?_⟩,by omega,by rw[hb i e hx,hq];rfl⟩
   rw[lz hx,List.all_append,h2]
   simp[hq]
  |false=>
   refine .inr ⟨_,by rw[hb i e hx,hq];rfl, ?_⟩
   have:l.all q=false:=by
    rw[List.all_eq_false]
    exact⟨e,K8 hx,by rw[hq];decide⟩
   rw[this];rfl
 ·have hl:i=l.length:=by omega
  subst hl
  rw[MB] at h2
  refine .inr ⟨_,he, ?_⟩
  rw[h2];rfl
def zZ (b:UInt8):Bool:= !(decide ((b.toNat:Int)<48)||decide (57<(b.toNat:Int)))
theorem ru (b:UInt8):zZ b=true↔48<=b.toNat/\b.toNat<=57:=by
 unfold zZ
 simp only[L0,L7,Lp]
 omega
def JC:List UInt8->Bool
 |b::_=>decide ((b.toNat:Int)=48)
 |[]=>false
def jn (l:List UInt8):Bool:= !decide (l=[])&& !decide (9<(l.length:Int))&&l.all zZ&& !(decide (1<(l.length:Int))&&JC l)
noncomputable def qg (l:List UInt8):Int:=(en l).getD 0
theorem z6:∀ (l:List UInt8) (a:Nat),l.all zZ=true->∃ n,Lib.decFrom a l=some n
 |[],a,_=>⟨a,rfl⟩
 |b::l,a,h=>by
  simp only[Mu,K1] at h
  obtain⟨n,hn⟩:=z6 l (a * 10+(b.toNat - 48)) h.2
  refine⟨n, ?_⟩
  unfold Lib.decFrom Lib.digitVal
  rw[if_pos ((ru b).1 h.1)]
  exact hn
theorem z7 {l:List UInt8} (h1:l≠[]) (h2:l.length<=18) (h3:l.all zZ=true):∃ n:Nat,en l=some (n:Int):=by
 unfold en
 rw[if_pos h2]
 cases l with
 |nil=>exact absurd rfl h1
 |cons b r=>
  have hb:=(ru b).1 (by simp only[Mu,K1] at h3;exact h3.1)
  obtain⟨n,hn⟩:=z6 (b::r) 0 h3
  refine⟨n, ?_⟩
  have e1:(b==45)=false:=by rw[MP];rintro rfl;revert hb;decide
  have e2:(b==43)=false:=by rw[MP];rintro rfl;revert hb;decide
  have e3:Lib.decNat (b::r)=some n:=by unfold Lib.decNat;rw[if_neg oS];exact hn
  simp only[Lib.atoi,e1,e2,e3]
  rfl
theorem GL {l:List UInt8} (h1:l≠[]) (h2:l.length<=18) (h3:l.all zZ=true):en l=some (qg l):=by
 obtain⟨n,hn⟩:=z7 h1 h2 h3
 unfold qg
 rw[hn];rfl
theorem z8 {l:List UInt8} (h:jn l=true):0<=qg l:=by
 unfold jn at h
 simp only[K1,L0,Lp] at h
 obtain⟨n,hn⟩:=z7 h.1.1.1 oM h.1.2
 unfold qg
 rw[hn];simp
theorem GM (l:List UInt8) (hl:l.length<=MX):iw l (UInt8.ofNat (Int.toNat 48)) (UInt8.ofNat (Int.toNat 57))=some (l.all zZ):=by
 have a1:((UInt8.ofNat (Int.toNat 48)).toNat:Int)=48:=by decide
 have a2:((UInt8.ofNat (Int.toNat 57)).toNat:Int)=57:=by decide
 unfold MX at hl
 unfold iw eI;dsimp only
 refine(DS l zZ false (fun i e he=> ?_) (by simp only[bm,LE];rfl)).trans ?_
 ·have hi:=gD he
  simp only[eu hi,Ln,aW,he,K3,eo,ge i oM,a1,a2]
  unfold zZ
  cases(decide ((e.toNat:Int)<48)||decide (57<(e.toNat:Int)))<;>rfl
 ·cases l.all zZ<;>rfl
theorem H4 (l:List UInt8) (hl:l.length<=MX):jP l 9=some (if jn l=true then(qg l,true) else(0,false)):=by
 have hd:lS l=some (!decide (l=[])&&l.all zZ):=by
  unfold lS aR;dsimp only
  rw[GM l hl]
  simp only[K3,ep]
 unfold jP dk;dsimp only
 rw[hd]
 unfold jn
 cases l with
 |nil=>rfl
 |cons b r=>
  have hg:cO (b::r) 0=some b:=rfl
  simp only[hg,K3,eo,ep,JC,show decide (b::r=[])=false from rfl,LL,L4]
  cases h1:decide (9<((b::r).length:Int)) with
  |true=>rfl
  |false=>
  cases h2:(b::r).all zZ with
  |false=>rfl
  |true=>
  cases h3:(decide (1<((b::r).length:Int))&&decide ((b.toNat:Int)=48)) with
  |true=>rfl
  |false=>
   simp only[LG,M8,LL,M1,LE,LX]
   rw[GL oS (by have:=of_decide_eq_false h1;omega) h2]
   rfl
def fQ (e:ax):Bool:=match e.fRepeats with|[[_]]=>true|_=>false
def dA (e:ax):List UInt8:=match e.fRepeats with|(t::_)::_=>t|_=>[]
def yO (es:List ax):Prop:=es.length<=50/\∀ e∈es,nv e=0
theorem C_ {t:List UInt8} (h:mw t=0):t.length<=1000:=by
 unfold mw at h
 split at h
 ·cases h
 ·omega
theorem vl {e:ax} (h:nv e=0):∃ t ts rs,e.fRepeats=(t::ts)::rs/\t.length<=1000:=by
 unfold nv at h
 split at h
 ·cases h
 ·split at h
  ·cases h
  ·cases hr:e.fRepeats with
   |nil=>rename_i h1 _;rw[hr] at h1;exact absurd rfl h1
   |cons r rs=>
    rw[hr] at h
    have h1:=eU h r oS
    unfold Ck at h1
    split at h1
    ·cases h1
    ·split at h1
     ·cases h1
     ·cases r with
      |nil=>rename_i h2 _;exact absurd rfl h2
      |cons t ts=>exact⟨t,ts,rs,rfl,C_ (eU h1 t oS)⟩
theorem qI {es:List ax} (h:yO es):∀ t∈es.map dA,t.length<=MX:=by
 intro t ht
 obtain⟨e,he,rfl⟩:=Lt.1 ht
 obtain⟨u,us,rs,hr,hl⟩:=vl (h.2 e he)
 unfold dA MX
 rw[hr];simp only;omega
theorem Ir {e:ax} (h:nv e=0):∃ r,cO e.fRepeats 0=some r/\cO r 0=some (dA e)/\(decide ((e.fRepeats.length:Int)=1)&&decide ((r.length:Int)=1))=fQ e:=by
 obtain⟨t,ts,rs,hr, -⟩:=vl h
 refine⟨t::ts,by rw[hr];rfl,by unfold dA;rw[hr];rfl, ?_⟩
 unfold fQ
 rw[hr]
 cases rs<;>cases ts<;>simp<;>omega
noncomputable def Jq (es:List ax):List (List UInt8)×Bool:=if es.all fQ=true then(es.map dA,true) else([],false)
theorem yP {es:List ax} (tag:List UInt8) (h:yO es):lj ⟨tag,es⟩=some (Jq es):=by
 unfold lj aR;dsimp only
 unfold Jq
 have key:=vh (X:=Nat) (k:=eg fun s=>some (s.1,true)) (c:=some (if es.all fQ=true then(es.map dA,true) else([],false)))
  (f:=fun s:List (List UInt8)×Int=>bif decide (s.2<(es.length:Int)) then(cO es s.2).bind fun e=>(Ii (!decide ((e.fRepeats.length:Int)=1)) ((cO e.fRepeats 0).bind fun e=>some !decide ((e.length:Int)=1))).bind fun v=>
   bif v then gm (gm (some ([],false))) else(cO e.fRepeats 0).bind fun e=>(cO e 0).bind fun e=>mi (mB (s.1.length+[e].length)) (some (.inl (s.1++[e],IntKind.i64.wrap (s.2+1)))) else gm (some (.inl (s.1,s.2))))
  (fun i=>((es.take i).map dA,(i:Int))) (fun i=>es.length - i) (fun i=>i<=es.length/\(es.take i).all fQ=true) (by
  rintro i ⟨hi,hs⟩
  rcases Lx i es.length with h1|h1
  ·obtain⟨e,he⟩:=eH h1
   have hm:=h.2 e (K8 he)
   obtain⟨r,r1,r2,r3⟩:=Ir hm
   have hl:mB (((es.take i).map dA).length+[dA e].length)=some ():=by
    unfold mB
    have:=h.1
    rw[if_pos (by simp only[LN,Lb,K7,Lf];omega)]
   have hd:(!decide ((e.fRepeats.length:Int)=1)|| !decide ((r.length:Int)=1))= !fQ e:=by rw[<-r3,Bool.not_and]
   cases hsi:fQ e with
   |true=>
    refine .inl ⟨i+1,⟨h1,by rw[lz he,List.all_append,hs];simp[hsi]⟩,by omega, ?_⟩
    simp only[eu h1,Ln,aW,he,K3,r1,eo,hd,hsi,LG,LE,r2,mi,hl,ge i (by have:=h.1;omega)]
    rw[lz he,Mw];rfl
   |false=>
    refine .inr ⟨.inr ([],false), ?_, ?_⟩
    ·simp only[eu h1,Ln,aW,he,K3,r1,eo,hd,hsi,LL,Ln]
     rfl
    ·have:es.all fQ=false:=by
      rw[List.all_eq_false]
      exact⟨e,K8 he,by simp[hsi]⟩
     rw[this];rfl
  ·have:i=es.length:=by omega
   subst this
   refine .inr ⟨.inl (es.map dA,(es.length:Int)), ?_, ?_⟩
   ·simp only[bm,LE,MB];rfl
   ·rw[MB] at hs
    rw[hs];rfl) 0 ⟨LT _,rfl⟩
 exact key
def my (es:List ax):List UInt8:=match es with|[]=>[]|e::_=>dA e
def z_ (es:List ax):Bool:=match es with|[]=>false|e::_=>fQ e&&fx (dA e)
theorem GN (s:aa) (h:yO s.fElements):nU s=some (my s.fElements):=by
 unfold nU dk;dsimp only
 unfold qD aR;dsimp only
 have w0:IntKind.i64.wrap ((1:Int) - 1)=0:=by rw[aZ _ oM oM];omega
 cases hs:s.fElements with
 |nil=>rfl
 |cons e es=>
  rw[hs] at h
  obtain⟨t,ts,rs,hr, -⟩:=vl (h.2 e oS)
  have d1:decide (((e::es).length:Int)<1)=false:=by simp only[K7,Lp];omega
  have d2:decide ((((t::ts)::rs).length:Int)<1)=false:=by simp only[K7,Lp];omega
  have d3:decide (((t::ts).length:Int)<1)=false:=by simp only[K7,Lp];omega
  have g1:cO (e::es) 0=some e:=rfl
  have g2:cO ((t::ts)::rs) 0=some (t::ts):=rfl
  have g3:cO (t::ts) 0=some t:=rfl
  simp only[d1,LE,w0,g1,K3,hr,d2,g2,d3,eo,M8,g3]
  have:dA e=t:=by unfold dA;rw[hr]
  show some t=some (dA e)
  rw[this]
theorem JD (s:aa) (h:yO s.fElements):mG s=some (z_ s.fElements):=by
 unfold mG dk;dsimp only
 cases hs:s.fElements with
 |nil=>rfl
 |cons e es=>
  rw[hs] at h
  have d1:decide (((e::es).length:Int)=0)=false:=by simp only[K7,Lp];omega
  have g1:fB (e::es) ((none:Option Int).getD 0) ((some 1).getD ((e::es).length:Int))=some [e]:=by
   unfold fB
   rw[if_pos ⟨by simp,by simp,by simp only[L9,K7];omega⟩]
   rfl
  have ho:yO [e]:=⟨by simp,fun x hx=>by rw[LA.1 hx];exact h.2 e oS⟩
  rw[d1]
  simp only[LE,g1,K3]
  rw[yP [] ho]
  have hlen:=qI ho (dA e) oS
  unfold Jq z_
  simp only[Mu,List.all_nil,Bool.and_true]
  cases hsi:fQ e with
  |false=>rfl
  |true=>
   have g2:cO ([e].map dA) 0=some (dA e):=rfl
   simp only[LX,K3,g2,nz _ hlen,ep,L4]
theorem rq (b:UInt8):∀ (l:List UInt8) (a:Nat),Lib.decFrom a (l++[b])=(Lib.decFrom a l).bind fun n=>(Lib.digitVal b).map fun d=>n * 10+d
 |[],a=>by
  show Lib.decFrom a [b]=_
  unfold Lib.decFrom
  cases Lib.digitVal b<;>rfl
 |x::l,a=>by
  show Lib.decFrom a (x::(l++[b]))=_
  unfold Lib.decFrom
  cases Lib.digitVal x with
  |none=>rfl
  |some d=>exact rq b l _
theorem Jx {b:UInt8} (h:zZ b=true):Lib.digitVal b=some (b.toNat - 48):=by
 unfold Lib.digitVal
 rw[if_pos ((ru b).1 h)]
theorem Ei {l:List UInt8} (h1:l≠[]) (h2:l.length<=18) (h3:l.all zZ=true):en l=Option.map (fun n:Nat=>(n:Int)) (Lib.decFrom 0 l):=by
 unfold en
 rw[if_pos h2]
 cases l with
 |nil=>exact absurd rfl h1
 |cons b r=>
  have hb:=(ru b).1 (by simp only[Mu,K1] at h3;exact h3.1)
  have e1:(b==45)=false:=by rw[MP];rintro rfl;revert hb;decide
  have e2:(b==43)=false:=by rw[MP];rintro rfl;revert hb;decide
  have e3:Lib.decNat (b::r)=Lib.decFrom 0 (b::r):=by unfold Lib.decNat;rw[if_neg oS]
  simp only[Lib.atoi,e1,e2,e3]
  rfl
theorem GD {l m:List UInt8} (h:l≠[]):JC (l++m)=JC l:=by
 cases l with
 |nil=>exact absurd rfl h
 |cons b l=>rfl
theorem zS (d:Nat) (h:d<10):zZ (UInt8.ofNat (48+d))=true/\(UInt8.ofNat (48+d)).toNat=48+d:=by
 have h2:(UInt8.ofNat (48+d)).toNat=48+d:=by simp;omega
 exact⟨(ru _).2 oM,h2⟩
structure DD (u:Nat) (l:List UInt8):Prop where
 val:Lib.decFrom 0 l=some u
 dig:l.all zZ=true
 ne:l≠[]
 lead:1<=u->JC l=false
 zero:u=0->l.length=1
theorem Jy (u:Nat):DD u (Lib.decDigits u):=by
 induction u using Nat.strongRecOn with
 |_ u ih=>
  by_cases h:u<10
  ·obtain⟨h1,h2⟩:=zS u h
   rw[Lib.decDigits,dif_pos h]
   refine⟨?_,by rw[Mu,h1];rfl,by simp,fun h0=> ?_,fun _=>rfl⟩
   ·unfold Lib.decFrom
    rw[Jx h1,h2]
    show Lib.decFrom _ []=_
    unfold Lib.decFrom
    congr 1;omega
   ·show decide (((UInt8.ofNat (48+u)).toNat:Int)=48)=false
    rw[h2];exact MQ oM
  ·obtain⟨k1,k2,k3,k4,k5⟩:=ih (u/10) oM
   obtain⟨h1,h2⟩:=zS (u%10) (Nat.mod_lt _ oD)
   rw[Lib.decDigits,dif_neg h]
   refine⟨?_,by rw[List.all_append,k2,Mu,h1];rfl,by simp,fun _=> ?_,fun h0=>by omega⟩
   ·rw[rq,k1,Jx h1,h2]
    simp only[K3,Me]
    congr 1;omega
   ·rw[GD k3];exact k4 oM
theorem qo:∀ (k u:Nat),u<10^(k+1)->(Lib.decDigits u).length<=k+1
 |0,u,h=>by
  rw[Lib.decDigits,dif_pos (by simpa using h)];simp
 |k+1,u,h=>by
  by_cases h10:u<10
  ·rw[Lib.decDigits,dif_pos h10];simp
  ·rw[Lib.decDigits,dif_neg h10,K4]
   have:=qo k (u/10) (by rw[Nat.pow_succ] at h;omega)
   simp;omega
theorem oB {t:Int} (h0:0<=t) (h1:t<=999999999):jn (Lib.itoa t)=true/\qg (Lib.itoa t)=t/\∀ b∈Lib.itoa t,zZ b=true:=by
 obtain⟨u,rfl⟩:∃ u:Nat,t=(u:Int):=⟨t.toNat,by omega⟩
 rw[Lib.itoa_nonneg]
 obtain⟨k1,k2,k3,k4,k5⟩:=Jy u
 have hl:=qo 8 u (by
                  have:(10:Nat)^(8+1)=1000000000:=by decide
                  omega)
 refine⟨?_, ?_,fun b hb=>Lj.1 k2 b hb⟩
 ·unfold jn
  rw[MQ k3,MQ oM,k2]
  rcases Nat.eq_zero_or_pos u with hu|hu
  ·rw[MQ (by have:=k5 hu;omega)];rfl
  ·rw[k4 hu];simp
 ·unfold qg
  rw[Ei k3 oM k2,k1];rfl
theorem Cr (m:Option Bool):Ii true m=some true:=rfl
theorem Aa (m:Option Bool):Ii false m=m:=rfl
theorem Eu (m:Option Bool):ot true m=m:=rfl
theorem Ev (m:Option Bool):ot false m=some false:=rfl
def oC:List UInt8:=[73,72,68]
def mz:List UInt8:=[71,72,68]
def l9:List UInt8:=[77,72,68]
def vn:List UInt8:=[73,84,82]
def yR:List UInt8:=[71,84,82]
def xp:List UInt8:=[77,84,82]
noncomputable def Ew (l:List UInt8):Bool:=jn l&&decide (1<=qg l)&&decide (qg l<=3652059)
noncomputable def Ex (l:List UInt8):Bool:=jn l&&decide (qg l<=86399)
def Ec:List (List UInt8)->Bool
 |[a,b]=>fx a&&eA b
 |_=>false
def Ed:List (List UInt8)->Bool
 |[a,b,c]=>fx a&&eA b&&eA c
 |_=>false
noncomputable def Ee:List (List UInt8)->Bool
 |[a,b,c,d,e,f]=>fx a&&eA b&&eA c&&Ew d&&Ex e&&(decide (f=[])||decide (f=[49]))
 |_=>false
noncomputable def Ef (s:aa):Bool:=s.fElements.all fQ&&(if s.fTag=mz then Ec (s.fElements.map dA) else if s.fTag=l9 then Ed (s.fElements.map dA) else Ee (s.fElements.map dA))
theorem Ey (n lo hi:Int):iB n lo hi=some (decide (n<lo)||decide (hi<n)):=by
 unfold iB aR;dsimp only
 simp only[eo,K3]
theorem Iv (n:Int):kM n=some (decide (1<=n)&&decide (n<=3652059)):=by
 unfold kM dk;dsimp only
 rw[Ey]
 simp only[K3]
 congr 1
 rw[LP];simp
theorem Ez {l:List UInt8} (hl:l.length<=MX):∃ n,jP l 9=some (n,jn l)/\(jn l=true->n=qg l):=by
 rw[H4 l hl]
 cases h:jn l with
 |true=>exact⟨_,by simp,fun _=>rfl⟩
 |false=>exact⟨0,by simp,fun h=>by cases h⟩
theorem GQ (s:aa) (h:yO s.fElements):mH s=some (Ef s):=by
 obtain⟨tag,es⟩:=s
 have hl:=qI h
 have ht:=yP tag h
 unfold mH py;dsimp only
 simp only at h hl ht
 rw[ht]
 unfold Ef Jq
 simp only
 cases hs:es.all fQ with
 |false=>rfl
 |true=>
  simp only[LX,K3,LG,Aa,L4]
  generalize es.map dA=ts at hl
  cases ts with
  |nil=>
   simp only[Cr,K3,show decide ((([]:List (List UInt8)).length:Int)=0)=true from rfl,Ln,Ec,Ed,Ee]
   split
   ·rfl
   ·split<;>rfl
  |cons a ts=>
   have d1:decide (((a::ts).length:Int)=0)=false:=by simp only[K7,Lp];omega
   have g0:cO (a::ts) 0=some a:=rfl
   have ra:=nz a (hl a oS)
   simp only[d1,Aa,K3,g0,ra]
   cases hra:fx a with
   |false=>
    simp only[LL,Ln]
    cases ts with
    |nil=>simp only[Ec,Ed,Ee,ite_self]
    |cons b ts=>
     cases ts with
     |nil=>simp[Ec,Ed,Ee,hra]
     |cons c ts=>
      cases ts with
      |nil=>simp[Ec,Ed,Ee,hra]
      |cons d ts=>
       cases ts with
       |nil=>simp[Ec,Ed,Ee,hra]
       |cons e ts=>
        cases ts with
        |nil=>simp[Ec,Ed,Ee,hra]
        |cons f ts=>cases ts<;>simp[Ec,Ed,Ee,hra]
   |true=>
    simp only[LG,LE]
    by_cases hG:tag=mz
    ·have e1:decide (tag=[71,72,68])=true:=Nb hG
     rw[if_pos hG];simp only[e1,Ln]
     match ts with
     |[]=>rfl
     |[b]=>
      have g1:cO [a,b] 1=some b:=rfl
      have d2:decide ((([a,b]:List (List UInt8)).length:Int)=2)=true:=rfl
      simp only[d2,Eu,g1,K3,mM b (hl b oS),Ec,hra,L4]
     |b::c::ts=>
      have d2:decide (((a::b::c::ts).length:Int)=2)=false:=by simp only[K7,Lp];omega
      simp only[d2,Ev,K3,Ec]
    ·have e1:decide (tag=[71,72,68])=false:=MQ hG
     simp only[e1,LE,hG,LI]
     by_cases hM:tag=l9
     ·have e2:decide (tag=[77,72,68])=true:=Nb hM
      rw[if_pos hM];simp only[e2,Ln]
      match ts with
      |[]=>rfl
      |[b]=>rfl
      |[b,c]=>
       have g1:cO [a,b,c] 1=some b:=rfl
       have g2:cO [a,b,c] 2=some c:=rfl
       have d2:decide ((([a,b,c]:List (List UInt8)).length:Int)=3)=true:=rfl
       simp only[d2,Eu,g1,g2,K3,mM b (hl b oS),mM c (hl c oS),ep,Ed,hra,L4]
      |b::c::d::ts=>
       have d2:decide (((a::b::c::d::ts).length:Int)=3)=false:=by simp only[K7,Lp];omega
       simp only[d2,Ev,K3,Ed]
     ·have e2:decide (tag=[77,72,68])=false:=MQ hM
      simp only[e2,LE,hM,LI]
      match ts with
      |[]=>rfl
      |[b]=>rfl
      |[b,c]=>rfl
      |[b,c,d]=>rfl
      |[b,c,d,e]=>rfl
      |[b,c,d,e,f]=>
       have g1:cO [a,b,c,d,e,f] 1=some b:=rfl
       have g2:cO [a,b,c,d,e,f] 2=some c:=rfl
       have g3:cO [a,b,c,d,e,f] 3=some d:=rfl
       have g4:cO [a,b,c,d,e,f] 4=some e:=rfl
       have g5:cO [a,b,c,d,e,f] 5=some f:=rfl
       have d2:decide ((([a,b,c,d,e,f]:List (List UInt8)).length:Int)=6)=true:=rfl
       obtain⟨n1,k1,k2⟩:=Ez (hl d oS)
       obtain⟨n2,k3,k4⟩:=Ez (hl e oS)
       simp only[d2,LG,Aa,g1,g2,g3,g4,g5,K3,mM b (hl b oS),mM c (hl c oS),eo,ep,k1,k3,Iv,Ey,Ee,hra,L4]
       unfold Ew Ex
       cases eA b<;>cases eA c<;>cases h1:decide (f=[])<;>cases h2:decide (f=[49])<;>simp
       all_goals
        cases h3:jn d<;>cases h4:jn e<;>simp
        have:=z8 h4
        rw[k2 h3,k4 h4]
        rw[LP];simp;omega
      |b::c::d::e::f::g::ts=>
       have d2:decide (((a::b::c::d::e::f::g::ts).length:Int)=6)=false:=by simp only[K7,Lp];omega
       simp only[d2,LL,Cr,K3,Ln,Ee]
abbrev RA:=iC
abbrev RO:=eV
abbrev Nt:=ac
def eq (tag:List UInt8):Nat:=if tag=oC\/tag=vn then 1 else if tag=mz\/tag=yR then 2 else if tag=l9\/tag=xp then 3 else 0
def jo (tag:List UInt8):Bool:=decide (tag=oC)||decide (tag=mz)||decide (tag=l9)
def lA (a:RA) (k i:Int):RA:=⟨a.flevels,a.fnotes++[⟨k,i⟩]⟩
def bP (to:Nat) (i:Int) (a:RA):RA:=⟨a.flevels.take to,a.fnotes++List.replicate (a.flevels.length - to) ⟨2,i⟩⟩
theorem Ab {α:Type} (n:Nat) (x:α):List.replicate n x++[x]=List.replicate (n+1) x:=by
 rw[List.replicate_succ']
def lB (ref:List UInt8) (x:RO):RO:=⟨x.fheaded,x.fref,x.fmany+1,if fx ref=true then x.frefs++[ref] else x.frefs⟩
def yS (ref:List UInt8) (x:RO) (i:Int):List Nt:=if fx ref=true/\ref∈x.frefs then[⟨5,i⟩] else[]
structure uo (n:Nat) (a:RA):Prop where
 lv:a.flevels.length<=3
 nt:a.fnotes.length<=10 * n
 ma:∀ x∈a.flevels,0<=x.fmany/\x.fmany<=(n:Int)+1/\x.frefs.length<=n
noncomputable def GR (ts:List (List UInt8)) (lv:Nat) (i:Int) (x:RO):List Nt:=
 match ts with
 |[p,q]=>if jn p=true/\fx q=true then(if x.fheaded=true then(if qg p=x.fmany+(if lv=2 then 1 else 0) then[] else[⟨3,i⟩])++(if q=x.fref then[] else[⟨4,i⟩]) else[]) else[⟨6,i⟩]
 |_=>[⟨6,i⟩]
noncomputable def lC (s:aa) (lv:Nat) (i:Int) (a:RA):RA:=
 if a.flevels.length<=lv then lA a 1 i else
  match a.flevels[lv]? with
  |none=>a
  |some x=>⟨a.flevels.take lv,(bP (lv+1) i a).fnotes++(if s.fElements.all fQ=true then GR (s.fElements.map dA) lv i x else[⟨6,i⟩])⟩
def xq:RO:=⟨false,[],0,[]⟩
def oa (es:List ax):List UInt8:=match es with|[]=>[]|e::_=>if fQ e=true then dA e else[]
def uq (ref:List UInt8) (i:Int) (a:RA):RA:=match a.flevels.getLast? with|none=>a|some x=>⟨a.flevels.dropLast++[lB ref x],a.fnotes++yS ref x i⟩
theorem rv (ref:List UInt8) (i:Int) (N:List Nt):uq ref i ⟨[],N⟩=⟨[],N⟩:=rfl
theorem mO (ref:List UInt8) (i:Int) (L:List RO) (x:RO) (N:List Nt):uq ref i ⟨L++[x],N⟩=⟨L++[lB ref x],N++yS ref x i⟩:=by
 unfold uq
 simp
theorem Ac (ref:List UInt8) (i:Int) (a:RA):(uq ref i a).flevels.length=a.flevels.length:=by
 obtain⟨L,N⟩:=a
 rcases MG L with rfl|⟨P,x,rfl⟩
 ·rfl
 ·rw[MH,mO];simp
def gI (lv:Nat) (i:Int) (a:RA):RA:=if a.flevels.length<lv then⟨a.flevels++List.replicate (lv - a.flevels.length) xq,a.fnotes++[⟨1,i⟩]⟩ else a
noncomputable def jp (s:aa) (i:Int) (a:RA):RA:=if Ef s=true then a else lA a 6 i
noncomputable def ob (s:aa) (lv:Nat) (i:Int) (a:RA):RA:=
 let b:=uq (oa s.fElements) i (jp s i (gI lv i (bP lv i a)))
 ⟨b.flevels++[⟨true,my s.fElements,if lv=2 then 1 else 0,[]⟩],b.fnotes⟩
section
variable {α R:Type}
theorem gu {S A:Type} {f:S->Option (S⊕A)} {s s':S} (h:f s=some (.inl s')):bg f s=bg f s':=by rw[cC,h]
theorem ec {S A:Type} {f:S->Option (S⊕A)} {s:S} {a:A} (h:f s=some (.inr a)):bg f s=some a:=by rw[cC,h]
def Bq (L:List α) (i j:Int) (k:List α->Option R):Option R:=
 (cO L j).bind fun _=>L[j.toNat]?.bind fun e=>(cO L i).bind fun _=>L[i.toNat]?.bind fun e2=>(cO L i).bind fun _=>L[i.toNat]?.bind fun _=>
  (cO (L.set i.toNat e) j).bind fun _=>(L.set i.toNat e)[j.toNat]?.bind fun _=>k ((L.set i.toNat e).set j.toNat e2)
theorem Gi {L:List α} {i j:Nat} {u v w:α} {k:List α->Option R} (hi:L[i]?=some u) (hj:L[j]?=some v) (hw:(L.set i v)[j]?=some w):Bq L (i:Int) (j:Int) k=k ((L.set i v).set j u):=by
 unfold Bq
 simp only[aW,Mo,hi,hj,hw,K3]
theorem n_ (X Y:List α) (u:α):(X++u::Y)[X.length]?=some u:=by simp
theorem sD (X Y:List α) (u v:α):(X++u::Y).set X.length v=X++v::Y:=by simp
theorem Gj (X Y Z:List α) (u v:α) (k:List α->Option R):Bq (X++u::(Y++v::Z)) (X.length:Int) ((X.length+1+Y.length:Nat):Int) k=k (X++v::(Y++u::Z)):=by
 have e1:∀ w z:α,X++w::(Y++z::Z)=(X++w::Y)++z::Z:=fun w z=>by simp
 have e2:∀ w:α,X.length+1+Y.length=(X++w::Y).length:=fun w=>by simp;omega
 have hj:∀ w z:α,(X++w::(Y++z::Z))[X.length+1+Y.length]?=some z:=fun w z=>by rw[e1,e2 w];exact n_ _ _ _
 rw[Gi (n_ X _ u) (hj u v) (by rw[sD];exact hj v v),sD,e1 v v,e2 v,sD,<-e1]
theorem Gk (X Y Z:List α) (u v:α) (k:List α->Option R):Bq (X++u::(Y++v::Z)) ((X.length+1+Y.length:Nat):Int) (X.length:Int) k=k (X++v::(Y++u::Z)):=by
 have e1:∀ w z:α,X++w::(Y++z::Z)=(X++w::Y)++z::Z:=fun w z=>by simp
 have e2:∀ w:α,X.length+1+Y.length=(X++w::Y).length:=fun w=>by simp;omega
 have hj:∀ w z:α,(X++w::(Y++z::Z))[X.length+1+Y.length]?=some z:=fun w z=>by rw[e1,e2 w];exact n_ _ _ _
 have hs:∀ w z y:α,(X++w::(Y++z::Z)).set (X.length+1+Y.length) y=X++w::(Y++y::Z):=fun w z y=>by rw[e1,e2 w,sD,<-e1]
 rw[Gi (hj u v) (n_ X _ u) (by rw[hs];exact n_ X _ u),hs,sD]
structure ny (lt:α->α->Bool):Prop where
 asym:∀ a b,lt a b=true->lt b a=false
 tr:∀ a b c,lt b a=false->lt c b=false->lt c a=false
def kP (lt:α->α->Bool) (L:List α):Prop:=L.Pairwise (fun a b=>lt b a=false)
def DX (lt:α->α->Bool) (x y:α):Bool:= !lt x y&& !lt y x
def SP (lt:α->α->Bool) (X Y:List α):Prop:=X.Perm Y/\∀ x,X.filter (DX lt x)=Y.filter (DX lt x)
theorem SP.refl (lt:α->α->Bool) (X:List α):SP lt X X:=⟨.refl _,fun _=>rfl⟩
theorem SP.symm {lt:α->α->Bool} {X Y:List α} (h:SP lt X Y):SP lt Y X:=⟨h.1.symm,fun x=>(h.2 x).symm⟩
theorem SP.trans {lt:α->α->Bool} {X Y Z:List α} (h:SP lt X Y) (g:SP lt Y Z):SP lt X Z:=⟨h.1.trans g.1,fun x=>(h.2 x).trans (g.2 x)⟩
theorem SP.app {lt:α->α->Bool} {X Y X' Y':List α} (h:SP lt X X') (g:SP lt Y Y'):SP lt (X++Y) (X'++Y'):=⟨h.1.append g.1,fun x=>by rw[List.filter_append,List.filter_append,h.2,g.2]⟩
theorem ny.lt_left {lt:α->α->Bool} (O:ny lt) {v v' x:α} (h:lt v v'=false) (g:lt v x=true):lt v' x=true:=by
 cases e:lt v' x with
 |true=>rfl
 |false=>rw[O.tr x v' v e h] at g;cases g
theorem ny.lt_right {lt:α->α->Bool} (O:ny lt) {v v' x:α} (h:lt v' v=false) (g:lt x v=true):lt x v'=true:=by
 cases e:lt x v' with
 |true=>rfl
 |false=>rw[O.tr v v' x h e] at g;cases g
theorem SP.swap {lt:α->α->Bool} (O:ny lt) {U V:List α} (h:∀ u∈U,∀ v∈V,lt v u=true):SP lt (U++V) (V++U):=by
 refine⟨List.perm_append_comm,fun x=> ?_⟩
 rw[List.filter_append,List.filter_append]
 cases hu:U.filter (DX lt x) with
 |nil=>simp
 |cons u U'=>
  have hV:V.filter (DX lt x)=[]:=by
   rw[List.filter_eq_nil_iff]
   intro v hv hx
   have hu':=MS.1 (hu▸List.mem_cons_self:u∈U.filter (DX lt x))
   have:=h u hu'.1 v hv
   have a:=hu'.2
   simp only[DX,K1,L0] at a hx
   rw[O.tr u x v a.1 hx.2] at this
   cases this
  rw[hV];simp
theorem ia {lt:α->α->Bool} {X Y:List α}:kP lt (X++Y)↔kP lt X/\kP lt Y/\∀ a∈X,∀ b∈Y,lt b a=false:=List.pairwise_append
theorem HQ (lt:α->α->Bool) (x:α):kP lt [x]:=List.pairwise_singleton _ _
theorem pP {lt:α->α->Bool} {V:List α} (h:kP lt V) {P:α->Prop} (O:ny lt) (hP:∀ v v',lt v v'=false->P v->P v') {k:Nat} (hk:k=0\/∃ v,V[k - 1]?=some v/\P v):∀ w∈V.take k,P w:=by
 rcases hk with rfl|⟨v,hv,hp⟩
 ·simp
 ·intro w hw
  obtain⟨i,hi,rfl⟩:=L1.1 hw
  rw[List.getElem_take]
  obtain⟨hv1,hv2⟩:=K5.1 hv
  have hi':i<k:=by have:=List.length_take_le k V;rw[Lb] at hi;omega
  rcases Mm (show i<=k - 1 by omega) with hlt|heq
  ·exact hP v _ (by rw[<-hv2];exact List.pairwise_iff_getElem.1 h i (k - 1) oM hv1 hlt) hp
  ·subst heq;rw[hv2];exact hp
theorem sE {lt:α->α->Bool} {V:List α} (h:kP lt V) {P:α->Prop} (hP:∀ v v',lt v' v=false->P v->P v') {k:Nat} (hk:V.length<=k\/∃ v,V[k]?=some v/\P v):∀ w∈V.drop k,P w:=by
 rcases hk with hk|⟨v,hv,hp⟩
 ·rw[Mi hk];simp
 ·intro w hw
  obtain⟨i,hi,rfl⟩:=L1.1 hw
  rw[List.getElem_drop]
  obtain⟨hv1,hv2⟩:=K5.1 hv
  rw[L5] at hi
  rcases Nat.eq_zero_or_pos i with rfl|hi'
  ·simp only[Mx];rw[hv2];exact hp
  ·exact hP v _ (by rw[<-hv2];exact List.pairwise_iff_getElem.1 h k (k+i) hv1 oM oM) hp
noncomputable def C4 (a b n:Int):List α×Int->Option ((List α×Int)⊕((List α×Int)⊕(Unit×List α))):=fun s=>
 bif decide (s.2<n) then Bq s.1 (IntKind.i64.wrap (a+s.2)) (IntKind.i64.wrap (b+s.2)) (fun L'=>some (.inl (L',IntKind.i64.wrap (s.2+1)))) else gm (some (.inl (s.1,s.2)))
noncomputable def xe (L:List α) (a b n:Int):Option (Unit×List α):=(bg (C4 a b n) (L,0)).bind (eg fun s=>some ((),s.1))
theorem Cm:∀ (U V A M B:List α) (a b n i:Nat),U.length=V.length->A.length+U.length+M.length+V.length<=1152921504606846976->a+i=A.length->b+i=A.length+U.length+M.length->n=i+U.length->
  bg (C4 (a:Int) (b:Int) (n:Int)) (A++U++M++V++B,(i:Int))=some (.inl (A++V++M++U++B,(n:Int))):=by
 intro U
 induction U with
 |nil=>
  intro V A M B a b n i hl hb h1 h2 h3
  have hV:V=[]:=by cases V with
   |nil=>rfl
   |cons _ _=>simp at hl
  subst hV
  have:n=i:=by simpa using h3
  subst this
  refine ec ?_
  unfold C4
  simp[gm]
 |cons u U ih=>
  intro V A M B a b n i hl hb h1 h2 h3
  cases V with
  |nil=>simp at hl
  |cons v V=>
   simp only[K7] at hl hb h2 h3
   have e:A++u::U++M++v::V++B=A++u::((U++M)++v::(V++B)):=by simp
   have w1:IntKind.i64.wrap ((a:Int)+(i:Int))=(A.length:Int):=by rw[aZ _ oM oM];omega
   have w2:IntKind.i64.wrap ((b:Int)+(i:Int))=((A.length+1+(U++M).length:Nat):Int):=by rw[aZ _ oM oM,K4];omega
   have w3:IntKind.i64.wrap ((i:Int)+1)=((i+1:Nat):Int):=ge i oM
   have hd:decide (((i:Nat):Int)<(n:Int))=true:=by simp;omega
   rw[e]
   refine(gu (s':=((A++[v])++U++(M++[u])++V++B,((i+1:Nat):Int))) ?_).trans ?_
   ·unfold C4
    dsimp only
    rw[hd,w1,w2,w3]
    dsimp only[cond_true]
    rw[Gj]
    simp
   ·rw[ih V (A++[v]) (M++[u]) B a b n (i+1) oM oT oT oT oM]
    simp
theorem xf (U V A M B:List α) (a b n:Int) (hl:U.length=V.length) (hb:A.length+U.length+M.length+V.length<=1152921504606846976) (ha:a=(A.length:Nat)) (hbb:b=((A.length+U.length+M.length:Nat):Int)) (hn:n=(U.length:Nat)):
  xe (A++U++M++V++B) a b n=some ((),A++V++M++U++B):=by
 subst ha hbb hn
 unfold xe
 rw[show(0:Int)=((0:Nat):Int) from rfl,Cm U V A M B _ _ _ 0 hl hb oM oM oM]
 rfl
noncomputable def Gl (m:Int):List α×Int×Int->Option ((List α×Int×Int)⊕((List α×Int×Int)⊕(Unit×List α))):=fun s=>
 bif !decide (s.2.1=s.2.2) then
  bif decide (s.2.2<s.2.1) then(xe s.1 (IntKind.i64.wrap (m - s.2.1)) m s.2.2).bind fun y=>some (.inl (y.2,IntKind.i64.wrap (s.2.1 - s.2.2),s.2.2))
  else(xe s.1 (IntKind.i64.wrap (m - s.2.1)) (IntKind.i64.wrap (IntKind.i64.wrap (m+s.2.2) - s.2.1)) s.2.1).bind fun y=>some (.inl (y.2,s.2.1,IntKind.i64.wrap (s.2.2 - s.2.1)))
 else gm (some (.inl (s.1,s.2.1,s.2.2)))
noncomputable def HR (L:List α) (a m b:Int):Option (Unit×List α):=
 (bg (Gl m) (L,IntKind.i64.wrap (m - a),IntKind.i64.wrap (b - m))).bind (eg fun s=>(xe s.1 (IntKind.i64.wrap (m - s.2.1)) m s.2.1).bind fun y=>some ((),y.2))
theorem DY:∀ (n:Nat) (P U V S:List α) (m:Nat),U.length+V.length<=n->U≠[]->V≠[]->(P++U++V++S).length<=1152921504606846976->m=P.length+U.length->
  (bg (Gl (m:Int)) (P++U++V++S,(U.length:Int),(V.length:Int))).bind (eg fun s=>(xe s.1 (IntKind.i64.wrap ((m:Int) - s.2.1)) (m:Int) s.2.1).bind fun y=>some ((),y.2))=some ((),P++V++U++S):=by
 intro n
 induction n with
 |zero=>intro P U V S m h hU;cases U with
  |nil=>exact absurd rfl hU
  |cons _ _=>simp at h
 |succ n ih=>
  intro P U V S m h hU hV hb hm
  have lU:0<U.length:=Mr.2 hU
  have lV:0<V.length:=Mr.2 hV
  have hb':P.length+U.length+V.length+S.length<=1152921504606846976:=by simpa[M2] using hb
  have w1:IntKind.i64.wrap ((m:Int) - (U.length:Int))=((P.length:Nat):Int):=by rw[aZ _ oM oM];omega
  rcases Nat.lt_trichotomy U.length V.length with hlt|heq|hgt
  ·
   have hd:(!decide ((U.length:Int)=(V.length:Int)))=true:=by simp;omega
   have hd2:decide ((V.length:Int)<(U.length:Int))=false:=by simp;omega
   have w2:IntKind.i64.wrap (IntKind.i64.wrap ((m:Int)+(V.length:Int)) - (U.length:Int))=((P.length+V.length:Nat):Int):=by
    rw[aZ ((m:Int)+(V.length:Int)) oM oM,aZ _ oM oM];omega
   have w3:IntKind.i64.wrap ((V.length:Int) - (U.length:Int))=((V.length - U.length:Nat):Int):=by rw[aZ _ oM oM];omega
   have e:V=V.take (V.length - U.length)++V.drop (V.length - U.length):=(Lg _ _).symm
   generalize hV1:V.take (V.length - U.length)=V1 at e
   generalize hV2:V.drop (V.length - U.length)=V2 at e
   have l1:V1.length=V.length - U.length:=by rw[<-hV1,Lb];omega
   have l2:V2.length=U.length:=by rw[<-hV2,L5];omega
   have hs:=xf U V2 P V1 S (P.length:Int) ((P.length+V.length:Nat):Int) (U.length:Int) l2.symm oM rfl oM rfl
   rw[gu (s':=(P++V2++V1++(U++S),(V2.length:Int),(V1.length:Int)))]
   ·rw[ih P V2 V1 (U++S) m oM (by intro h0;rw[h0] at l2;simp at l2;omega) (by intro h0;rw[h0] at l1;simp at l1;omega) oT oM]
    rw[e];simp
   ·unfold Gl
    dsimp only
    rw[hd,hd2,w1,w2,w3]
    dsimp only[cond_true,cond_false]
    rw[show P++U++V++S=P++U++V1++V2++S by rw[e];simp,hs,l2,l1]
    simp
  ·have hd:(!decide ((U.length:Int)=(V.length:Int)))=false:=by simp;omega
   rw[ec (a:= .inl (P++U++V++S,(U.length:Int),(V.length:Int)))]
   ·simp only[K3,eg]
    rw[w1,show P++U++V++S=P++U++[]++V++S by simp,xf U V P [] S _ _ _ heq oT rfl oT rfl]
    simp
   ·unfold Gl
    dsimp only
    rw[hd]
    simp[gm]
  ·have hd:(!decide ((U.length:Int)=(V.length:Int)))=true:=by simp;omega
   have hd2:decide ((V.length:Int)<(U.length:Int))=true:=by simp;omega
   have w3:IntKind.i64.wrap ((U.length:Int) - (V.length:Int))=((U.length - V.length:Nat):Int):=by rw[aZ _ oM oM];omega
   have e:U=U.take V.length++U.drop V.length:=(Lg _ _).symm
   generalize hU1:U.take V.length=U1 at e
   generalize hU2:U.drop V.length=U2 at e
   have l1:U1.length=V.length:=by rw[<-hU1,Lb];omega
   have l2:U2.length=U.length - V.length:=by rw[<-hU2,L5]
   have hs:=xf U1 V P U2 S (P.length:Int) (m:Int) (V.length:Int) l1 oM rfl oM oM
   rw[gu (s':=(P++V++U2++U1++S,(U2.length:Int),(U1.length:Int)))]
   ·rw[ih (P++V) U2 U1 S m oM (by intro h0;rw[h0] at l2;simp at l2;omega) (by intro h0;rw[h0] at l1;simp at l1;omega) oT oT]
    rw[e];simp
   ·unfold Gl
    dsimp only
    rw[hd,hd2,w1,w3]
    dsimp only[cond_true,cond_false]
    rw[show P++U++V++S=P++U1++U2++V++S by rw[e];simp,hs,l2,l1]
    simp
theorem HS (P U V S:List α) (a m b:Int) (hU:U≠[]) (hV:V≠[]) (hb:(P++U++V++S).length<=1152921504606846976) (ha:a=(P.length:Nat)) (hm:m=((P.length+U.length:Nat):Int)) (hbb:b=((P.length+U.length+V.length:Nat):Int)):
  HR (P++U++V++S) a m b=some ((),P++V++U++S):=by
 have hb':P.length+U.length+V.length+S.length<=1152921504606846976:=by simpa[M2] using hb
 unfold HR
 rw[show IntKind.i64.wrap (m - a)=(U.length:Int) by rw[aZ _ oM oM];omega,show IntKind.i64.wrap (b - m)=(V.length:Int) by rw[aZ _ oM oM];omega,hm]
 exact DY _ P U V S _ (K9 _) hU hV hb rfl
end
section
variable {α R:Type}
def DZ (c:α->α->Option Int) (a:Int):List α×Int->Option ((List α×Int)⊕((List α×Int)⊕((List α×Int)⊕((List α×Int)⊕(Unit×List α))))):=fun t=>
 (ot (decide (a<t.2)) ((cO t.1 t.2).bind fun _=>t.1[t.2.toNat]?.bind fun e=>(cO t.1 (IntKind.i64.wrap (t.2 - 1))).bind fun _=>t.1[(IntKind.i64.wrap (t.2 - 1)).toNat]?.bind fun e2=>(c e e2).bind fun x=>some (decide (x<0)))).bind fun v=>
  bif v then Bq t.1 t.2 (IntKind.i64.wrap (t.2 - 1)) (fun L'=>some (.inl (L',IntKind.i64.wrap (t.2 - 1)))) else gm (some (.inl (t.1,t.2)))
noncomputable def Gm (c:α->α->Option Int) (a b:Int):List α×Int->Option ((List α×Int)⊕((List α×Int)⊕(Unit×List α))):=fun s=>
 bif decide (s.2<b) then(bg (DZ c a) (s.1,s.2)).bind (eg fun t=>some (.inl (t.1,IntKind.i64.wrap (s.2+1)))) else gm (some (.inl (s.1,s.2)))
noncomputable def D0 (c:α->α->Option Int) (L:List α) (a b:Int):Option (Unit×List α):=(bg (Gm c a b) (L,IntKind.i64.wrap (a+1))).bind (eg fun s=>some ((),s.1))
def C5 (Q:α->Prop) (c:α->α->Option Int) (lt:α->α->Bool):Prop:=∀ a b,Q a->Q b->∃ x,c a b=some x/\decide (x<0)=lt a b
theorem D1 {Q:α->Prop} {c:α->α->Option Int} {lt:α->α->Bool} (hc:C5 Q c lt) (A:List α) (x:α) (hx:Q x):∀ (n:Nat) (P T:List α),(∀ y∈P,Q y)->P.length<=n->A.length+P.length<=1152921504606846976->
  ∃ P1 P2,P=P1++P2/\bg (DZ c (A.length:Int)) (A++P++x::T,((A.length+P.length:Nat):Int))=some (.inl (A++P1++x::(P2++T),((A.length+P1.length:Nat):Int)))/\(∀ y∈P2,lt x y=true)/\(P1=[]\/∃ y,P1[P1.length - 1]?=some y/\lt x y=false):=by
 intro n
 induction n with
 |zero=>
  intro P T _ hn hb
  have:P=[]:=Ld.1 oM
  subst this
  refine⟨[],[],rfl,ec ?_,by simp,.inl rfl⟩
  unfold DZ
  simp[ot,gm]
 |succ n ih=>
  intro P T hP hn hb
  rcases MG P with rfl|⟨K,y,rfl⟩
  ·refine⟨[],[],rfl,ec ?_,by simp,.inl rfl⟩
   unfold DZ
   simp[ot,gm]
  ·rw[MH] at hP hn hb⊢
   simp only[K4,K7,Lf] at hn hb
   obtain⟨z,hz,hz2⟩:=hc x y hx (hP y oS)
   have w1:IntKind.i64.wrap (((A.length+(K++[y]).length:Nat):Int) - 1)=(((A++K).length:Nat):Int):=by rw[aZ _ oT oT];simp;omega
   have hd:decide ((A.length:Int)<((A.length+(K++[y]).length:Nat):Int))=true:=by simp;omega
   have e:A++(K++[y])++x::T=(A++K)++y::([]++x::T):=by simp
   have e2:A.length+(K++[y]).length=(A++K).length+1+([]:List α).length:=by simp;omega
   have g1:((A++K)++y::([]++x::T))[(A++K).length+1+([]:List α).length]?=some x:=by
    rw[show(A++K)++y::([]++x::T)=(A++K++[y])++x::T by simp,show(A++K).length+1+([]:List α).length=(A++K++[y]).length by simp;omega];exact n_ _ _ _
   have g2:=n_ (A++K) ([]++x::T) y
   have hf:DZ c (A.length:Int) (A++(K++[y])++x::T,((A.length+(K++[y]).length:Nat):Int))=bif lt x y then some (.inl (A++K++x::(y::T),(((A++K).length:Nat):Int))) else some (.inr (.inl (A++(K++[y])++x::T,((A.length+(K++[y]).length:Nat):Int)))):=by
    unfold DZ
    dsimp only
    rw[hd,w1,e,e2]
    simp only[aW,Mo,g1,g2,K3,hz,hz2,ot,Ln,Gk]
    cases lt x y<;>simp[gm]
   cases hl:lt x y with
   |true=>
    rw[hl] at hf
    obtain⟨P1,P2,h1,h2,h3,h4⟩:=ih K (y::T) (fun z hz=>hP z (Mf _ hz)) oM oM
    refine⟨P1,P2++[y],by rw[h1];simp, ?_, ?_,h4⟩
    ·rw[gu hf,K4,h2];simp
    ·intro w hw
     rcases Le.1 hw with h|h
     ·exact h3 w h
     ·rw[LA.1 h];exact hl
   |false=>
    rw[hl] at hf
    refine⟨K++[y],[],by simp,by rw[ec hf];simp,by simp,.inr ⟨y, ?_,hl⟩⟩
    simp
theorem D2 {Q:α->Prop} {c:α->α->Option Int} {lt:α->α->Bool} (O:ny lt) (hc:C5 Q c lt) (A B:List α):∀ (T P:List α),(∀ y∈P++T,Q y)->kP lt P->A.length+P.length+T.length<=1152921504606846976->
  ∃ W,bg (Gm c (A.length:Int) ((A.length+P.length+T.length:Nat):Int)) (A++P++T++B,((A.length+P.length:Nat):Int))=some (.inl (A++W++B,((A.length+P.length+T.length:Nat):Int)))/\kP lt W/\SP lt (P++T) W:=by
 intro T
 induction T with
 |nil=>
  intro P _ hP hb
  refine⟨P,ec ?_,hP,by simpa using SP.refl lt P⟩
  unfold Gm
  simp[gm]
 |cons x T ih=>
  intro P hQ hP hb
  simp only[K7] at hb
  obtain⟨P1,P2,h1,h2,h3,h4⟩:=D1 hc A x (hQ x oS) P.length P (T++B) (fun y hy=>hQ y (Mf _ hy)) (K9 _) oM
  have hP':kP lt P1/\kP lt P2/\∀ a∈P1,∀ b∈P2,lt b a=false:=ia.1 (h1▸hP)
  have h5:∀ y∈P1,lt x y=false:=by
   have:=pP (k:=P1.length) hP'.1 (P:=fun y=>lt x y=false) O (fun v v' h g=>O.tr v' v x h g) (by
    rcases h4 with h|h
    ·exact .inl (by rw[h];rfl)
    ·exact .inr h)
   rwa[MB] at this
  have hs:kP lt (P1++x::P2):=by
   refine ia.2 ⟨hP'.1,List.pairwise_cons.2 ⟨fun y hy=>O.asym _ _ (h3 y hy),hP'.2.1⟩,fun a ha b hb=> ?_⟩
   rcases Li.1 hb with rfl|hb
   ·exact h5 a ha
   ·exact hP'.2.2 a ha b hb
  have hsp:SP lt (P++[x]) (P1++x::P2):=by
   rw[h1,Lc]
   exact(SP.refl lt P1).app (SP.swap O (fun u hu v hv=>by rw[LA.1 hv];exact h3 u hu))
  have hQ':∀ y∈(P1++x::P2)++T,Q y:=by
   intro y hy
   rcases Le.1 hy with h|h
   ·rcases Le.1 (hsp.1.mem_iff.2 h) with h|h
    ·exact hQ y (Mf _ h)
    ·exact hQ y (by rw[LA.1 h];simp)
   ·exact hQ y (by simp[h])
  obtain⟨W,g1,g2,g3⟩:=ih (P1++x::P2) hQ' hs (by rw[show(P1++x::P2).length=P.length+1 by rw[h1];simp;omega];omega)
  have l1:(P1++x::P2).length=P.length+1:=by rw[h1];simp;omega
  refine⟨W, ?_,g2, ?_⟩
  ·rw[l1] at g1
   rw[gu (s':=(A++(P1++x::P2)++T++B,((A.length+(P.length+1):Nat):Int)))]
   ·rw[show A.length+P.length+(x::T).length=A.length+(P.length+1)+T.length by simp;omega]
    exact g1
   ·have w1:IntKind.i64.wrap (((A.length+P.length:Nat):Int)+1)=((A.length+(P.length+1):Nat):Int):=by rw[aZ _ oM oM];omega
    have hd:decide (((A.length+P.length:Nat):Int)<((A.length+P.length+(x::T).length:Nat):Int))=true:=by simp;omega
    unfold Gm
    dsimp only
    rw[hd,w1,show A++P++x::T++B=A++P++x::(T++B) by simp,h2]
    simp[eg]
  ·refine SP.trans ?_ g3
   rw[show P++x::T=(P++[x])++T by simp]
   exact hsp.app (SP.refl lt T)
theorem C6 {Q:α->Prop} {c:α->α->Option Int} {lt:α->α->Bool} (O:ny lt) (hc:C5 Q c lt) (A U B:List α) (hQ:∀ u∈U,Q u) (a b:Int) (ha:a=(A.length:Nat)) (hb:b=((A.length+U.length:Nat):Int)) (hl:A.length+U.length<=1152921504606846976):
  ∃ W,D0 c (A++U++B) a b=some ((),A++W++B)/\kP lt W/\SP lt U W:=by
 subst ha hb
 unfold D0
 have w1:IntKind.i64.wrap ((A.length:Int)+1)=((A.length+1:Nat):Int):=by rw[aZ _ oM oM];omega
 cases U with
 |nil=>
  refine⟨[], ?_,List.Pairwise.nil,SP.refl _ _⟩
  rw[w1,ec (a:= .inl (A++[]++B,((A.length+1:Nat):Int)))]
  ·rfl
  ·unfold Gm
   have hd:decide (((A.length+1:Nat):Int)<((A.length+([]:List α).length:Nat):Int))=false:=by simp;omega
   dsimp only
   rw[hd]
   rfl
 |cons u T=>
  obtain⟨W,g1,g2,g3⟩:=D2 O hc A B T [u] hQ (HQ lt u) (by simp at hl⊢;omega)
  refine⟨W, ?_,g2,g3⟩
  rw[w1,show A++u::T++B=A++[u]++T++B by simp,show A.length+1=A.length+[u].length from rfl,show A.length+(u::T).length=A.length+[u].length+T.length by simp;omega,g1]
  rfl
def C7 (c:α->α->Option Int) (L:List α) (i j:Int) (k:Int->Option R):Option R:=
 (cO L i).bind fun _=>L[i.toNat]?.bind fun e=>(cO L j).bind fun _=>L[j.toNat]?.bind fun e2=>(c e e2).bind k
theorem xg {Q:α->Prop} {c:α->α->Option Int} {lt:α->α->Bool} (hc:C5 Q c lt) {L:List α} {i j:Nat} {x y:α} (hx:Q x) (hy:Q y) (hi:L[i]?=some x) (hj:L[j]?=some y):∃ z,(∀ {R:Type} (k:Int->Option R),C7 c L (i:Int) (j:Int) k=k z)/\decide (z<0)=lt x y:=by
 obtain⟨z,hz,hz2⟩:=hc x y hx hy
 refine⟨z,fun k=> ?_,hz2⟩
 unfold C7
 simp only[aW,Mo,hi,hj,hz,K3]
def kZ (i j:Int):Int:=IntKind.i64.wrap (IntKind.u64.wrap (IntKind.i64.wrap (i+j))/2)
theorem vi (i j:Nat) (h:i+j<=4611686018427387904):kZ (i:Int) (j:Int)=(((i+j)/2:Nat):Int):=by
 unfold kZ
 rw[aZ ((i:Int)+(j:Int)) oM oM,show((i:Int)+(j:Int))=((i+j:Nat):Int) by omega,IntKind.wrap_u64]
 rw[aZ _ oM oM]
 omega
noncomputable def Eh (c:α->α->Option Int) (L:List α) (I J:Int->Int) (T:Int->Bool):Int×Int->Option ((Int×Int)⊕((Int×Int)⊕R)):=fun s=>
 bif decide (s.1<s.2) then mi (Jr .u64 1) (C7 c L (I (kZ s.1 s.2)) (J (kZ s.1 s.2)) fun x=>bif T x then some (.inl (IntKind.i64.wrap (kZ s.1 s.2+1),s.2)) else some (.inl (s.1,kZ s.1 s.2))) else gm (some (.inl (s.1,s.2)))
theorem Cn {c:α->α->Option Int} {L:List α} {I J:Int->Int} {T:Int->Bool} (q:Nat->Bool) (lo hi:Nat) (hh:hi<=1152921504606846976)
  (hq:∀ h,lo<=h->h<hi->∃ z,(∀ {R:Type} (k:Int->Option R),C7 c L (I (h:Int)) (J (h:Int)) k=k z)/\T z=q h):∀ (n i j:Nat),j - i<=n->lo<=i->i<=j->j<=hi->(i=lo\/q (i - 1)=true)->(j=hi\/q j=false)->
  ∃ r,lo<=r/\r<=hi/\bg (Eh (R:=R) c L I J T) ((i:Int),(j:Int))=some (.inl ((r:Int),(r:Int)))/\(r=lo\/q (r - 1)=true)/\(r=hi\/q r=false):=by
 intro n
 induction n with
 |zero=>
  intro i j hn h1 h2 h3 h4 h5
  have:i=j:=by omega
  subst this
  refine⟨i,h1,h3,ec ?_,h4,h5⟩
  unfold Eh
  simp[gm]
 |succ n ih=>
  intro i j hn h1 h2 h3 h4 h5
  rcases Mm h2 with hlt|rfl
  ·have hd:decide ((i:Int)<(j:Int))=true:=by simp;omega
   have hm:=vi i j oM
   obtain⟨z,hz,hz2⟩:=hq ((i+j)/2) oM oM
   have w1:IntKind.i64.wrap ((((i+j)/2:Nat):Int)+1)=(((i+j)/2+1:Nat):Int):=ge _ oM
   have hf:Eh (R:=R) c L I J T ((i:Int),(j:Int))=bif q ((i+j)/2) then some (.inl ((((i+j)/2+1:Nat):Int),(j:Int))) else some (.inl ((i:Int),(((i+j)/2:Nat):Int))):=by
    unfold Eh
    dsimp only
    rw[hd,hm,w1]
    dsimp only[cond_true]
    rw[hz,hz2]
    rfl
   cases hq2:q ((i+j)/2) with
   |true=>
    rw[hq2] at hf
    obtain⟨r,g1,g2,g3,g4⟩:=ih ((i+j)/2+1) j oM oM oM h3 (.inr (by simpa using hq2)) h5
    exact⟨r,g1,g2,by rw[gu hf];exact g3,g4⟩
   |false=>
    rw[hq2] at hf
    obtain⟨r,g1,g2,g3,g4⟩:=ih i ((i+j)/2) oM h1 oM oM h4 (.inr hq2)
    exact⟨r,g1,g2,by rw[gu hf];exact g3,g4⟩
  ·refine⟨i,h1,h3,ec ?_,h4,h5⟩
   unfold Eh
   simp[gm]
noncomputable def J9 (i:Int):List α×Int->Option ((List α×Int)⊕((List α×Int)⊕(Unit×List α))):=fun s=>
 bif decide (s.2<IntKind.i64.wrap (i - 1)) then Bq s.1 s.2 (IntKind.i64.wrap (s.2+1)) (fun L'=>some (.inl (L',IntKind.i64.wrap (s.2+1)))) else gm (some (.inl (s.1,s.2)))
theorem Gn (x:α) (B:List α):∀ (V A:List α) (i:Nat),A.length+V.length<=1152921504606846976->i=A.length+V.length+1->bg (J9 (i:Int)) (A++x::V++B,(A.length:Int))=some (.inl (A++V++x::B,((i - 1:Nat):Int))):=by
 intro V
 induction V with
 |nil=>
  intro A i hb hi
  subst hi
  have w:IntKind.i64.wrap (((A.length+([]:List α).length+1:Nat):Int) - 1)=(A.length:Int):=by
   rw[Lf] at *
   rw[aZ _ oM oM];omega
  refine ec ?_
  unfold J9
  dsimp only
  rw[w]
  simp[gm]
 |cons v V ih=>
  intro A i hb hi
  simp only[K7] at hb hi
  have w:IntKind.i64.wrap ((i:Int) - 1)=((A.length+V.length+1:Nat):Int):=by rw[aZ _ oM oM];omega
  have hd:decide ((A.length:Int)<((A.length+V.length+1:Nat):Int))=true:=by simp;omega
  have w2:IntKind.i64.wrap ((A.length:Int)+1)=((A.length+1+([]:List α).length:Nat):Int):=by rw[aZ _ oM oM];simp
  rw[gu (s':=((A++[v])++x::V++B,((A++[v]).length:Int)))]
  ·rw[ih (A++[v]) i oT oT]
   simp
  ·unfold J9
   dsimp only
   rw[w,hd,w2]
   dsimp only[cond_true]
   rw[show A++x::v::V++B=A++x::([]++v::(V++B)) by simp,Gj]
   simp
noncomputable def Jw (i:Int):List α×Int->Option ((List α×Int)⊕((List α×Int)⊕(Unit×List α))):=fun s=>
 bif decide (i<s.2) then Bq s.1 s.2 (IntKind.i64.wrap (s.2 - 1)) (fun L'=>some (.inl (L',IntKind.i64.wrap (s.2 - 1)))) else gm (some (.inl (s.1,s.2)))
theorem Gq (y:α) (A:List α):∀ (n:Nat) (U B:List α),U.length<=n->A.length+U.length<=1152921504606846976->bg (Jw (A.length:Int)) (A++U++y::B,((A.length+U.length:Nat):Int))=some (.inl (A++y::U++B,(A.length:Int))):=by
 intro n
 induction n with
 |zero=>
  intro U B hn hb
  have:U=[]:=Ld.1 oM
  subst this
  refine ec ?_
  unfold Jw
  simp[gm]
 |succ n ih=>
  intro U B hn hb
  rcases MG U with rfl|⟨Q,u,rfl⟩
  ·refine ec ?_
   unfold Jw
   simp[gm]
  ·rw[MH] at hn hb⊢
   simp only[K4,K7,Lf] at hn hb
   have hd:decide ((A.length:Int)<((A.length+(Q++[u]).length:Nat):Int))=true:=by simp;omega
   have w1:IntKind.i64.wrap (((A.length+(Q++[u]).length:Nat):Int) - 1)=(((A++Q).length:Nat):Int):=by rw[aZ _ oT oT];simp;omega
   rw[gu (s':=(A++Q++y::(u::B),((A.length+Q.length:Nat):Int)))]
   ·rw[ih Q (u::B) oM oM]
    simp
   ·unfold Jw
    dsimp only
    rw[hd,w1,show A++(Q++[u])++y::B=(A++Q)++u::([]++y::B) by simp,show A.length+(Q++[u]).length=(A++Q).length+1+([]:List α).length by simp;omega]
    dsimp only[cond_true]
    rw[Gk]
    simp
end
end Go.Proofs.YtgmnipfafmphaaaGreatDoor
