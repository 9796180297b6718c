/-
  Laws on the way to the theorem.
-/
import Derived.Test.YtgocgdgknpdknaaGreatDoorBX5
namespace Go.Proofs.YtgocgdgknpdknaaGreatDoor
open Go.RowKit
set_option linter.unusedSimpArgs false
set_option linter.unusedVariables false
def sk (lo hi c:UInt8):Bool:=decide (lo.toNat<=c.toNat)&&decide (c.toNat<=hi.toNat)
theorem CL (l:List UInt8) (lo hi:UInt8) (hl:l.length<=1000000):o_ l lo hi=some (l.all (sk lo hi)):=by
 unfold o_ jW;dsimp only
 refine(pL l (sk lo hi) false (fun i e he=> ?_) ?_).trans ?_
 ·have hi':=b8 he
  have h1:(decide ((e.toNat:Int)<(lo.toNat:Int))||decide ((hi.toNat:Int)<(e.toNat:Int)))= !sk lo hi e:=by
   unfold sk;rw[J8];simp
  simp only[bl hi',J1,aB,he,JP,bG,bY i oM,h1]
  cases sk lo hi e<;>rfl
 ·simp only[ak,J4];rfl
 ·cases l.all (sk lo hi)<;>rfl
def eY (c:UInt8):Bool:=decide (48<=c.toNat)&&decide (c.toNat<=57)
def lL (l:List UInt8):Bool:= !decide (l=[])&&l.all eY
theorem jS {l:List UInt8} (h:lL l=true):qf l:=fun c hc=>by
 simp only[lL,JO,Ke] at h
 have:=h.2 c hc
 simpa[eY] using this
theorem wS {l:List UInt8} (h:lL l=true):l≠[]:=by
 intro e;subst e;simp[lL] at h
theorem tR (l:List UInt8) (hl:l.length<=1000000):kC l=some (lL l):=by
 unfold kC jX;dsimp only
 rw[CL l _ _ hl]
 simp only[JP,aW]
 rfl
theorem wT (l:List UInt8) (hl:l.length<=1000000):em l=some (lL l):=by
 unfold em jY;dsimp only
 unfold lL
 cases hd:decide (l=[]) with
 |true=>rfl
 |false=>
  simp only[J4,Kt,J6]
  refine(pL l eY false (fun i e he=> ?_) ?_).trans ?_
  ·have hi':=b8 he
   have h1:(decide ((e.toNat:Int)<48)||decide (57<(e.toNat:Int)))= !eY e:=by
    unfold eY;rw[J8];simp
    omega
   simp only[bl hi',J1,aB,he,JP,bG,bY i oM,h1]
   cases eY e<;>rfl
  ·simp only[ak,J4];rfl
  ·cases l.all eY<;>rfl
def Hm:List UInt8->Int
 |[]=>0
 |c::_=>c.toNat
def uN (l:List UInt8):Bool:=lL l&&(decide ((l.length:Int)=1)|| !decide (Hm l=48))
theorem yE {l:List UInt8} (h:l≠[]):∃ c,cx l 0=some c/\Hm l=(c.toNat:Int):=by
 cases l with
 |nil=>exact absurd rfl h
 |cons c l=>exact⟨c,rfl,rfl⟩
theorem Dz (l:List UInt8) (hl:l.length<=1000000):ls l=some (uN l):=by
 unfold ls rb;dsimp only
 rw[tR l hl]
 unfold uN
 cases hd:lL l with
 |false=>rfl
 |true=>
  obtain⟨c,hc,hh⟩:=yE (wS hd)
  simp only[JP,hc,bG,hh,aW,J6]
theorem w8 {e:UInt8} (h:48<=e.toNat/\e.toNat<=57):IntKind.u8.wrap ((e.toNat:Int) - 48)=(e.toNat:Int) - 48:=by
 have:IntKind.u8.wrap ((e.toNat:Int) - 48)=((e.toNat:Int) - 48)%256:=by simp[IntKind.wrap,IntKind.bits,IntKind.signed]
 rw[this];omega
theorem yF (l:List UInt8) (c:UInt8):bJ 0 (l++[c])=10 * bJ 0 l+((c.toNat:Int) - 48):=by rw[yk];rfl
theorem qf.take {l:List UInt8} (h:qf l) (n:Nat):qf (l.take n):=fun c hc=>h c (Kl hc)
theorem DA {l:List UInt8} (h:qf l) (n:Nat):bJ 0 (l.take n)<=bJ 0 l:=by
 have h1:=wQ (l:=l.drop n) (n:=bJ 0 (l.take n)) (fun c hc=>h c (KH hc)) (wR (h.take n) (KL _))
 rw[<-yk,KB] at h1
 exact h1
theorem wU (l:List UInt8) (h:qf l) (hl:l.length<=1000):∃ r,cL l=some (r,decide (bJ 0 l<=1000000000000000))/\(bJ 0 l<=1000000000000000->r=bJ 0 l):=by
 unfold cL jY;dsimp only
 have key:∃ c:Int×Bool,_=some c/\∃ r,c=(r,decide (bJ 0 l<=1000000000000000))/\(bJ 0 l<=1000000000000000->r=bJ 0 l):=iG (X:=Nat) (R:=Int×Bool) (C:=fun c=>∃ r,c=(r,decide (bJ 0 l<=1000000000000000))/\(bJ 0 l<=1000000000000000->r=bJ 0 l))
  (f:=fun s:Int×Int=>bif decide (s.snd<(l.length:Int)) then(cx l s.snd).bind fun e=>bif decide (1000000000000000<IntKind.i64.wrap (IntKind.i64.wrap (10 * s.fst)+IntKind.i64.wrap (IntKind.u8.wrap ((e.toNat:Int) - 48)))) then dg (dg (some (0,false))) else some (Sum.inl (IntKind.i64.wrap (IntKind.i64.wrap (10 * s.fst)+IntKind.i64.wrap (IntKind.u8.wrap ((e.toNat:Int) - 48))),IntKind.i64.wrap (s.snd+1))) else dg (some (Sum.inl (s.fst,s.snd))))
  (k:=eh fun s:Int×Int=>some (s.fst,true))
  (fun i=>(bJ 0 (l.take i),(i:Int))) (fun i=>l.length - i) (fun i=>i<=l.length/\bJ 0 (l.take i)<=1000000000000000) (by
   rintro i ⟨h1,h2⟩
   have h0:=wR (h.take i) (KL _)
   rcases J9 i l.length with hi|hi
   ·obtain⟨e,he⟩:=dI hi
    have ke:=h e (JU he)
    have hs:bJ 0 (l.take (i+1))=10 * bJ 0 (l.take i)+((e.toNat:Int) - 48):=by rw[cQ he,yF]
    simp only[bl hi,J1,aB,he,JP,w8 ke,bY i oM]
    rw[eJ (10 * bJ 0 (l.take i)) oM oM,eJ ((e.toNat:Int) - 48) oM oM,eJ _ oM oM,<-hs]
    by_cases hc:1000000000000000<bJ 0 (l.take (i+1))
    ·have:=DA h (i+1)
     refine .inr ⟨_,_,by rw[Lb hc];rfl,rfl,0, ?_,fun hh=>by omega⟩
     rw[Lj oM]
    ·exact .inl ⟨i+1,⟨hi,by omega⟩,by omega,by rw[Lj hc];rfl⟩
   ·have hl':i=l.length:=by omega
    subst hl'
    rw[Kx] at h2⊢
    refine .inr ⟨_,_,by simp only[ak,J4];rfl,rfl,bJ 0 l, ?_,fun _=>rfl⟩
    rw[Lb h2]) 0 ⟨Kf _,by simp[bJ]⟩
 obtain⟨c,hc,r,rfl,hr⟩:=key
 exact⟨r,hc,hr⟩
def F8 (neg:Bool) (v:Int):Bool:=(!neg||decide (v≠0))&&decide (v<=1000000000000000)
theorem Ex (b:Bool) (l:List Int) (p:Int) (h:pn l) (hz:Gc l):∃ d e,cI ⟨b,l⟩ p=some (d,e)/\decide (e=0)=decide (bA l<=1000000000000000):=by
 unfold cI jW;dsimp only
 obtain⟨r,hr⟩:=Jc b l h hz 1000000000000000 oM oM
 rw[hr]
 cases decide (bA l<=1000000000000000)<;>exact⟨_,_,rfl,rfl⟩
theorem zt {n:Nat} (h:n<=1000):Bm n=some ():=by unfold Bm;rw[Ll oM]
theorem HE (neg:Bool) (a b:List UInt8) (h:qf (a++b)) (hl:(a++b).length<=50):∃ d e,lJ neg a b=some (d,e)/\decide (e=0)=F8 neg (bJ 0 (a++b)):=by
 unfold lJ jX;dsimp only
 obtain⟨x,hx,nx⟩:=Iz 0 oM oM
 obtain⟨t,ht,nt⟩:=Iz 10 oM oM
 have hlen:a.length+b.length<=1000:=by rw[JR] at hl;omega
 simp only[hx,JP,cd (zt hlen),ht]
 generalize a++b=l at h hl
 have key:∃ c:bC×Int,_=some c/\decide (c.2=0)=F8 neg (bJ 0 l):=iG (X:=al×Nat) (R:=bC×Int) (C:=fun c=>decide (c.2=0)=F8 neg (bJ 0 l))
  (f:=fun s:al×Int=>bif decide (s.snd<(l.length:Int)) then(ce s.fst t).bind fun x=>(cx l s.snd).bind fun e=>(p7 (IntKind.i64.wrap (IntKind.u8.wrap ((e.toNat:Int) - 48)))).bind fun x_1=>(co x x_1).bind fun x=>some (Sum.inl (x,IntKind.i64.wrap (s.snd+1))) else dg (some (Sum.inl (s.fst,s.snd))))
  (k:=eh fun s:al×Int=>bif neg then(bn s.fst).bind fun x=>bif decide (x=0) then some ({fUnits:=0,fPlaces:=0},10) else(bh s.fst).bind fun x=>(cI x (b.length:Int)).bind fun x=>some (x.fst,x.snd) else(cI s.fst (b.length:Int)).bind fun x=>some (x.fst,x.snd))
  (fun s=>(s.1,(s.2:Int))) (fun s=>l.length - s.2) (fun s=>s.2<=l.length/\vG s.1 (bJ 0 (l.take s.2)) (2 * s.2+1)) (by
   rintro⟨x,i⟩ ⟨h1,h2⟩
   simp only at h1 h2⊢
   rcases J9 i l.length with hi|hi
   ·obtain⟨e,he⟩:=dI hi
    have ke:=h e (JU he)
    obtain⟨y,hy,ny⟩:=Hh h2 nt oM
    obtain⟨d,hd,nd⟩:=Iz ((e.toNat:Int) - 48) oM oM
    obtain⟨z,hz,nz⟩:=IA ny nd oM oM
    refine .inl ⟨(z,i+1),⟨hi, ?_⟩,by simp only;omega, ?_⟩
    ·have e1:bJ 0 (l.take (i+1))=bJ 0 (l.take i) * 10+((e.toNat:Int) - 48):=by rw[cQ he,yF];omega
     rw[e1]
     exact⟨nz.neg,nz.ok,nz.nz,nz.val,by have:=nz.len;simp only;omega⟩
    ·simp only[bl hi,J1,aB,he,JP,w8 ke,bY i oM,hy]
     rw[eJ ((e.toNat:Int) - 48) oM oM,hd]
     simp only[JP,hz]
   ·have hl':i=l.length:=by omega
    subst hl'
    rw[Kx] at h2
    have h0:=h2.nn
    have hend:∀ c:bC×Int,(bif neg then(bn x).bind fun x_1=>bif decide (x_1=0) then some (({fUnits:=0,fPlaces:=0}:bC),(10:Int)) else(bh x).bind fun x=>(cI x (b.length:Int)).bind fun x=>some (x.fst,x.snd) else(cI x (b.length:Int)).bind fun x=>some (x.fst,x.snd))=some c->True:=fun _ _=>trivial
    have hfin:∃ c:bC×Int,(bif neg then(bn x).bind fun x_1=>bif decide (x_1=0) then some (({fUnits:=0,fPlaces:=0}:bC),(10:Int)) else(bh x).bind fun x=>(cI x (b.length:Int)).bind fun x=>some (x.fst,x.snd) else(cI x (b.length:Int)).bind fun x=>some (x.fst,x.snd))=some c/\decide (c.2=0)=F8 neg (bJ 0 l):=by
     cases neg with
     |false=>
      obtain⟨d,e,k1,k2⟩:=Ex x.fneg x.fabs b.length h2.ok h2.nz
      rw[h2.val] at k2
      exact⟨(d,e),by simp only[J4];rw[show cI x (b.length:Int)=some (d,e) from k1];rfl,by simp only[F8,Kt,Bool.true_or,J6];exact k2⟩
     |true=>
      rw[IC h2]
      simp only[J1,JP]
      by_cases hv:bJ 0 l=0
      ·rw[Ll hv,hv];exact⟨_,rfl,rfl⟩
      ·rw[if_neg hv]
       obtain⟨u,k1,k2,k3,k4,k5⟩:=Hi h2 oM hv
       obtain⟨d,e,q1,q2⟩:=Ex true u b.length k2 k3
       rw[k4] at q2
       refine⟨(d,e), ?_, ?_⟩
       ·rw[k1];simp only[JP,q1];rfl
       ·simp only[F8,J3,Kj,hv,ne_eq,not_false_eq_true,Lo,J6];exact q2
    obtain⟨c,k1,k2⟩:=hfin
    exact .inr ⟨.inl (x,(l.length:Int)),c,by simp only[ak,J4];rfl,k1,k2⟩) (x,0) ⟨Kf _,by simpa[bJ] using nx⟩
 obtain⟨⟨d,e⟩,hc,hr⟩:=key
 exact⟨d,e,hc,hr⟩
def Ey (s:List UInt8):Bool:=
 let c:=Lib.cut (Lib.trimPrefix s [45]) [46]
 uN c.1&&(!c.2.2||(lL c.2.1&&decide (c.2.1.length<=9)))&&F8 (Lib.hasPrefix s [45]) (bJ 0 (c.1++c.2.1))
theorem CM (s sep:List UInt8):(Lib.cut s sep).1.length<=s.length/\(Lib.cut s sep).2.1.length<=s.length/\(Lib.cut s sep).1.length+(Lib.cut s sep).2.1.length<=s.length/\((Lib.cut s sep).2.2=false->(Lib.cut s sep).2.1=[]):=by
 unfold Lib.cut
 split
 ·refine⟨?_, ?_, ?_,fun h=>by cases h⟩
  ·simp only[Ko];omega
  ·simp only[K0];omega
  ·simp only[Ko,K0];omega
 ·exact⟨JW _,by simp,by simp,fun _=>rfl⟩
theorem wV (s p:List UInt8):(Lib.trimPrefix s p).length<=s.length:=by
 unfold Lib.trimPrefix
 split
 ·simp only[K0];omega
 ·exact JW _
theorem BR (s:List UInt8) (hs:s.length<=40):∃ d e,kD s=some (d,e)/\decide (e=0)=Ey s:=by
 unfold kD rc;dsimp only
 have hp:=wV s [45]
 obtain⟨c1,c2,c3,c4⟩:=CM (Lib.trimPrefix s [45]) [46]
 have hcut:gD (Lib.trimPrefix s [45]) [46]=some (Lib.cut (Lib.trimPrefix s [45]) [46]):=by unfold gD;rw[Ll oM]
 have hd:decide (40<((s.length:Nat):Int))=false:=by simp;omega
 simp only[fA,JP,hcut,hd]
 unfold Ey
 simp only
 generalize Lib.cut (Lib.trimPrefix s [45]) [46]=c at c1 c2 c3 c4
 obtain⟨a,b,p⟩:=c
 simp only at c1 c2 c3 c4⊢
 rw[Dz a oM,tR b oM]
 simp only[JP,bG,aW,Kj]
 cases ha:uN a with
 |false=>exact⟨_,_,rfl,rfl⟩
 |true=>
  simp only[J3,Kj,J6]
  have da:qf a:=jS (by unfold uN at ha;simp only[JO] at ha;exact ha.1)
  have fin:qf b->∃ d e,(lJ (Lib.hasPrefix s [45]) a b).bind (fun x=>some (x.fst,x.snd))=some (d,e)/\decide (e=0)=F8 (Lib.hasPrefix s [45]) (bJ 0 (a++b)):=fun db=>by
   obtain⟨d,e,k1,k2⟩:=HE (Lib.hasPrefix s [45]) a b (fun x hx=>(Kc.1 hx).elim (da x) (db x)) (by rw[JR];omega)
   exact⟨d,e,by rw[k1];rfl,k2⟩
  cases p with
  |false=>
   have hb:=c4 rfl
   subst hb
   simp only[Lx,J4,Kt,Bool.true_or,J6]
   exact fin (fun x hx=>by simp at hx)
  |true=>
   simp only[J6,J3,Kj]
   cases hb:lL b with
   |false=>exact⟨_,_,rfl,rfl⟩
   |true=>
    by_cases h9:b.length<=9
    ·have e1:decide (9<((b.length:Nat):Int))=false:=by simp;omega
     simp only[e1,J3,Bool.or_false,J4,Lb h9,LA,J6]
     exact fin (jS hb)
    ·have e1:decide (9<((b.length:Nat):Int))=true:=by simp;omega
     simp only[e1,Bool.or_true,J1,Lj h9,Bool.and_false,Lx]
     exact⟨_,_,rfl,rfl⟩
theorem yG:∀ {l:List UInt8},qf l->(bJ 0 l=0↔∀ c∈l,([48]:List UInt8).contains c=true)
 |[],_=>by simp[bJ]
 |c::l,h=>by
  have hc:=h c (Ks ..)
  have hl:qf l:=fun x hx=>h x (Ky _ hx)
  have ih:=yG hl
  have hcc:([48]:List UInt8).contains c=true↔c.toNat=48:=by
   simp only[List.contains_cons,List.contains_nil,Bool.or_false,JV]
   constructor
   ·rintro rfl;rfl
   ·intro e;exact UInt8.toNat_inj.1 (by simpa using e)
  have hd:bJ 0 (c::l)=bJ ((c.toNat:Int) - 48) l:=by show bJ (10 * 0+_) l=_;simp
  rw[hd]
  by_cases h48:c.toNat=48
  ·rw[h48]
   show bJ 0 l=0↔_
   rw[ih]
   constructor
   ·intro k x hx
    rcases J2.1 hx with rfl|hx
    ·exact hcc.2 h48
    ·exact k x hx
   ·exact fun k x hx=>k x (Ky _ hx)
  ·constructor
   ·intro k
    have:=wQ (l:=l) (n:=(c.toNat:Int) - 48) hl oM
    omega
   ·intro k
    exact absurd (hcc.1 (k c (Ks ..))) h48
theorem BS (s:List UInt8) (hs:s.length<=40):∃ d e,en s=some (d,e)/\decide (e=0)=Ey s:=by
 unfold en rf;dsimp only
 have hp:=wV s [45]
 obtain⟨c1,c2,c3,c4⟩:=CM (Lib.trimPrefix s [45]) [46]
 have hcut:gD (Lib.trimPrefix s [45]) [46]=some (Lib.cut (Lib.trimPrefix s [45]) [46]):=by unfold gD;rw[Ll oM]
 have hd:decide (40<((s.length:Nat):Int))=false:=by simp;omega
 simp only[fA,JP,hcut,hd,J4]
 unfold Ey
 simp only
 generalize Lib.cut (Lib.trimPrefix s [45]) [46]=c at c1 c2 c3 c4
 generalize Lib.hasPrefix s [45]=neg
 obtain⟨a,b,p⟩:=c
 simp only at c1 c2 c3 c4⊢
 rw[wT a oM,wT b oM,cd (zt (show a.length+b.length<=1000 by omega)),cd (zt (show a.length+b.length<=1000 by omega))]
 simp only[JP,bG]
 unfold uN
 cases ha:lL a with
 |false=>exact⟨_,_,rfl,rfl⟩
 |true=>
  obtain⟨c,hc,hh⟩:=yE (wS ha)
  have la:a.length≠0:=fun e=>wS ha (J7.1 e)
  simp only[hc,hh,JP,aW,bG,J3,Kj,J6]
  have h1:(decide (1<((a.length:Nat):Int))&&decide ((c.toNat:Int)=48))= !(decide (((a.length:Nat):Int)=1)|| !decide ((c.toNat:Int)=48)):=by
   rw[J8];simp;omega
  rw[h1]
  cases hw:(decide (((a.length:Nat):Int)=1)|| !decide ((c.toNat:Int)=48)) with
  |false=>exact⟨_,_,rfl,rfl⟩
  |true=>
   simp only[J3,Kj,J6]
   have da:=jS ha
   have fin:qf b->∃ d e,((mU neg ((cP (a++b) [48]).bind fun x=>some (decide (x=[])))).bind fun v=>bif v then some (({fUnits:=0,fPlaces:=0}:bC),(10:Int)) else(cL (a++b)).bind fun x_3=>bif !x_3.snd then some ({fUnits:=0,fPlaces:=0},1) else bif neg then some ({fUnits:=IntKind.i64.wrap (0 - x_3.fst),fPlaces:=(b.length:Int)},0) else some ({fUnits:=x_3.fst,fPlaces:=(b.length:Int)},0))=some (d,e)/\decide (e=0)=F8 neg (bJ 0 (a++b)):=fun db=>by
    have dl:qf (a++b):=fun x hx=>(Kc.1 hx).elim (da x) (db x)
    have ll:(a++b).length<=40:=by rw[JR];omega
    generalize hab:a++b=l at dl ll⊢
    have ht:cP l [48]=some (Lib.trimS l [48]):=by unfold cP;rw[Ll ⟨by omega,by simp,by decide⟩]
    have hz:decide (Lib.trimS l [48]=[])=decide (bJ 0 l=0):=by
     rw[J8,JS,JS,yb,yG dl]
    obtain⟨r,hr, -⟩:=wU l dl oM
    rw[ht,hr]
    simp only[JP,aW,hz]
    unfold F8
    cases neg with
    |false=>
     simp only[Lx,J4,Kt,Bool.true_or,J6]
     cases decide (bJ 0 l<=1000000000000000)<;>exact⟨_,_,rfl,rfl⟩
    |true=>
     simp only[J6,J3,Kj]
     by_cases hv:bJ 0 l=0
     ·rw[Lb hv,Lj (show¬ bJ 0 l≠0 by simp[hv])];exact⟨_,_,rfl,rfl⟩
     ·rw[Lj hv,Lb (show bJ 0 l≠0 from hv)]
      cases decide (bJ 0 l<=1000000000000000)<;>exact⟨_,_,rfl,rfl⟩
   cases p with
   |false=>
    have hb:=c4 rfl
    subst hb
    simp only[Lx,Kt,Bool.true_or,J6]
    exact fin (fun x hx=>by simp at hx)
   |true=>
    simp only[J6,J3,Kj]
    cases hb:lL b with
    |false=>exact⟨_,_,rfl,rfl⟩
    |true=>
     by_cases h9:b.length<=9
     ·have e1:decide (9<((b.length:Nat):Int))=false:=by simp;omega
      simp only[e1,J3,Bool.or_false,J4,Lb h9,LA,J6]
      exact fin (jS hb)
     ·have e1:decide (9<((b.length:Nat):Int))=true:=by simp;omega
      simp only[e1,Bool.or_true,J1,Lj h9,Bool.and_false,Lx]
      exact⟨_,_,rfl,rfl⟩
theorem CN:∀ (l:List UInt8) (a:Nat),qf l->∃ n:Nat,Lib.decFrom a l=some n/\(n:Int)=bJ a l
 |[],a,_=>⟨a,rfl,rfl⟩
 |b::l,a,h=>by
  have hb:=h b (Ks ..)
  obtain⟨n,k1,k2⟩:=CN l (a * 10+(b.toNat - 48)) fun c hc=>h c (Ky _ hc)
  refine⟨n, ?_, ?_⟩
  ·unfold Lib.decFrom Lib.digitVal
   rw[Ll hb];exact k1
  ·rw[k2]
   show bJ _ l=bJ _ l
   congr 1;omega
theorem Ez {l:List UInt8} (h1:l≠[]) (h2:l.length<=18) (h3:qf l):iF l=some (bJ 0 l):=by
 unfold iF
 rw[Ll h2]
 cases l with
 |nil=>exact absurd rfl h1
 |cons b r=>
  have hb:=h3 b (Ks ..)
  obtain⟨n,hn,hv⟩:=CN (b::r) 0 h3
  have e1:(b==45)=false:=by rw[LF];rintro rfl;revert hb;decide
  have e2:(b==43)=false:=by rw[LF];rintro rfl;revert hb;decide
  have e3:Lib.decNat (b::r)=some n:=by unfold Lib.decNat;rw[if_neg oS];exact hn
  simp only[Lib.atoi,e1,e2,e3,Ku]
  rw[<-show bJ 0 (b::r)=bJ ((0:Nat):Int) (b::r) from rfl] at hv
  simp[hv]
def yH (y:Int):Bool:=decide (y%4=0)&&(!decide (y%100=0)||decide (y%400=0))
def zu (y m:Int):Int:=if m=2 then(if yH y=true then 29 else 28) else if m=4\/m=6\/m=9\/m=11 then 30 else 31
def tS (y m d:Int):Bool:=decide (1<=y)&&decide (y<=9999)&&decide (1<=m)&&decide (m<=12)&&decide (1<=d)&&decide (d<=zu y m)
theorem wW (a b c:Int):pj a b c=some (decide (a<b)||decide (c<a)):=by
 unfold pj aV;dsimp only
 simp only[bG,JP]
theorem Aw (a b c:Int):e9 a b c=some (decide (b<=a)&&decide (a<=c)):=by
 unfold e9 cV;dsimp only
 simp only[aW,JP]
theorem HF {y:Int} (h:0<=y):mq y=some (yH y):=by
 unfold mq cU;dsimp only
 simp only[bG,aW,JP,Int.tmod_eq_emod_of_nonneg h];rfl
theorem HG {y:Int} (h:0<=y):fa y=some (yH y):=by
 unfold fa cV;dsimp only
 simp only[bG,aW,JP,Int.tmod_eq_emod_of_nonneg h]
 congr 1
 unfold yH
 rw[J8];simp;omega
theorem EA {m:Int} (h0:1<=m) (h1:m<=12):m=1\/m=2\/m=3\/m=4\/m=5\/m=6\/m=7\/m=8\/m=9\/m=10\/m=11\/m=12:=by omega
theorem Hn {y m:Int} (h:0<=y) (h0:1<=m) (h1:m<=12):mu y m=some (zu y m):=by
 unfold mu rg;dsimp only
 rw[HF h]
 rw[eJ (m - 1) oM oM]
 unfold zu
 cases hl:yH y<;>rcases EA h0 h1 with rfl|rfl|rfl|rfl|rfl|rfl|rfl|rfl|rfl|rfl|rfl|rfl<;>rfl
theorem Ho {y m:Int} (h:0<=y) (h0:1<=m) (h1:m<=12):fc y m=some (zu y m):=by
 unfold fc rk;dsimp only
 rw[HG h]
 unfold zu
 cases hl:yH y<;>rcases EA h0 h1 with rfl|rfl|rfl|rfl|rfl|rfl|rfl|rfl|rfl|rfl|rfl|rfl<;>rfl
theorem vH {R:Type} {D:Int->Option Int} {m:Int} (hm:m<=12) (hD:∀ i,1<=i->i<=12->∃ d,D i=some d) (k:Int->R) (a:Int) {r:Option R}
  (hr:r=(cR (fun s:Int×Int=>bif decide (s.snd<m) then(D s.snd).bind fun x=>some (Sum.inl (IntKind.i64.wrap (s.fst+x),IntKind.i64.wrap (s.snd+1))) else dg (some (Sum.inl (s.fst,s.snd)))) (a,1)).bind (eh fun s=>some (k s.fst))):∃ z,r=some (k z):=by
 rw[hr]
 have:=iG (R:=R) (X:=Int×Nat) (C:=fun c=>∃ z,c=k z) (f:=fun s:Int×Int=>bif decide (s.snd<m) then(D s.snd).bind fun x=>some (Sum.inl (IntKind.i64.wrap (s.fst+x),IntKind.i64.wrap (s.snd+1))) else dg (some (Sum.inl (s.fst,s.snd)))) (k:=eh fun s=>some (k s.fst))
  (fun s=>(s.1,(s.2:Int))) (fun s=>12 - s.2) (fun s=>1<=s.2) (by
   rintro⟨b,i⟩ hi
   simp only at hi⊢
   by_cases hc:(i:Int)<m
   ·obtain⟨d,hd⟩:=hD i oM oM
    refine .inl ⟨(IntKind.i64.wrap (b+d),i+1),by simp only;omega,by simp only;omega, ?_⟩
    simp only[Lb hc,J1,hd,JP,bY i oM]
   ·exact .inr ⟨_,k b,by rw[Lj hc];rfl,rfl,b,rfl⟩) (a,1) oS
 obtain⟨c,hc,z,rfl⟩:=this
 exact⟨z,hc⟩
theorem Gd {y m d:Int} (hy:0<=y):∃ n,kE y m d=some (n,tS y m d):=by
 unfold kE rh;dsimp only
 simp only[wW,JP,bG]
 have hyB:(decide (y<1)||decide (9999<y)||(decide (m<1)||decide (12<m)))= !(decide (1<=y)&&decide (y<=9999)&&decide (1<=m)&&decide (m<=12)):=by
  rw[J8];simp;omega
 rw[hyB]
 unfold tS
 cases hq:(decide (1<=y)&&decide (y<=9999)&&decide (1<=m)&&decide (m<=12)) with
 |false=>exact⟨_,rfl⟩
 |true=>
  simp only[JO,JS] at hq
  obtain⟨⟨⟨q1,q2⟩,q3⟩,q4⟩:=hq
  rw[Hn hy q3 q4]
  simp only[J3,JP,z8,J4,J6]
  have hd:(decide (d<1)||decide (zu y m<d))= !(decide (1<=d)&&decide (d<=zu y m)):=by
   rw[J8];simp<;>omega
  rw[hd]
  cases(decide (1<=d)&&decide (d<=zu y m)) with
  |false=>exact⟨_,rfl⟩
  |true=>
   simp only[J3,J4]
   have hb:∃ b,mt y=some b:=by unfold mt cU;dsimp only;exact⟨_,rfl⟩
   obtain⟨b,hb⟩:=hb
   rw[hb]
   exact vH (k:=fun z=>(z,true)) q4 (fun i h0 h1=>⟨_,Hn hy h0 h1⟩) _ rfl
theorem Ge {y m d:Int} (hy:0<=y\/y= -1):∃ n e,dL y m d=some (n,e)/\decide (e=0)=tS y m d:=by
 unfold dL rm;dsimp only
 simp only[Aw,JP,bG]
 unfold tS
 have hyB:(!(decide (1<=y)&&decide (y<=9999))|| !(decide (1<=m)&&decide (m<=12)))= !(decide (1<=y)&&decide (y<=9999)&&decide (1<=m)&&decide (m<=12)):=by
  cases decide (1<=y)<;>cases decide (y<=9999)<;>cases decide (1<=m)<;>cases decide (m<=12)<;>rfl
 rw[hyB]
 cases hq:(decide (1<=y)&&decide (y<=9999)&&decide (1<=m)&&decide (m<=12)) with
 |false=>exact⟨_,_,rfl,rfl⟩
 |true=>
  simp only[JO,JS] at hq
  obtain⟨⟨⟨q1,q2⟩,q3⟩,q4⟩:=hq
  rw[Ho oM q3 q4]
  simp only[J3,JP,z8,J4,J6]
  cases(decide (1<=d)&&decide (d<=zu y m)) with
  |false=>exact⟨_,_,rfl,rfl⟩
  |true=>
   simp only[J3,J4]
   have hb:∃ b,fb y=some b:=by unfold fb cV;dsimp only;exact⟨_,rfl⟩
   obtain⟨b,hb⟩:=hb
   have hd:∃ z,fI y m d=some z:=by
    unfold fI rl;dsimp only
    rw[hb]
    exact vH (k:=fun z=>z) q4 (fun i h0 h1=>⟨_,Ho oM h0 h1⟩) _ rfl
   obtain⟨z,hz⟩:=hd
   rw[hz];exact⟨_,_,rfl,rfl⟩
def ym (s:List UInt8):Bool:=decide (s.length=8)&&s.all eY&&tS (bJ 0 (s.take 4)) (bJ 0 ((s.drop 4).take 2)) (bJ 0 ((s.drop 4).drop 2))
theorem hZ {l:List UInt8} (n:Nat):l.all eY=((l.take n).all eY&&(l.drop n).all eY):=by
 conv=>lhs;rw[<-KB n l]
 rw[List.all_append]
theorem gb {l:List UInt8} (h:l≠[]):lL l=l.all eY:=by simp[lL,h]
theorem IH (l:List UInt8) (n:Nat) (h:n<=l.length):dy l ((none:Option Int).getD 0) ((some (n:Int)).getD (l.length:Int))=some (l.take n):=by
 simp only[KS,Kr,dy]
 rw[Ll ⟨KL _,by omega,by omega⟩];simp
theorem EB (l:List UInt8) (n:Nat) (h:n<=l.length):dy l ((some (n:Int)).getD 0) ((none:Option Int).getD (l.length:Int))=some (l.drop n):=by
 simp only[KS,Kr,dy]
 rw[Ll ⟨by omega,by omega,KL _⟩];simp
theorem Gf (s:List UInt8) (hs:s.length<=1000):∃ n,np s [4,2,2]=some (n,decide (s.length=8)&&s.all eY)/\((decide (s.length=8)&&s.all eY)=true->n=[bJ 0 (s.take 4),bJ 0 ((s.drop 4).take 2),bJ 0 ((s.drop 4).drop 2)]):=by
 unfold np cU;dsimp only
 have step:∀ (t:List UInt8) (o:List Int) (i n:Nat),t.length<=1000->o.length<=10->i<3->1<=n->n<=4->([4,2,2]:List Int)[i]?=some (n:Int)->
   (bif decide ((i:Int)<(([4,2,2]:List Int).length:Int)) then(cx ([4,2,2]:List Int) (i:Int)).bind fun e=>(z8 (decide (((t.length:Nat):Int)<e)) ((dy t ((none:Option Int).getD 0) ((some e).getD ((t.length:Nat):Int))).bind fun e=>(kC e).bind fun x=>some !x)).bind fun v=>bif v then dg (dg (some (([]:List Int),false))) else(dy t ((none:Option Int).getD 0) ((some e).getD ((t.length:Nat):Int))).bind fun e_1=>(iF e_1).bind fun x=>jg (qx (o.length+[x].length)) ((dy t ((some e).getD 0) ((none:Option Int).getD ((t.length:Nat):Int))).bind fun e=>some (Sum.inl (e,o++[x],IntKind.i64.wrap ((i:Int)+1)))) else dg (some (Sum.inl (t,o,(i:Int)))):Option ((List UInt8×List Int×Int)⊕((List UInt8×List Int×Int)⊕(List Int×Bool))))=
   if n<=t.length/\(t.take n).all eY=true then some (.inl (t.drop n,o++[bJ 0 (t.take n)],((i+1:Nat):Int))) else some (.inr (.inr ([],false))):=by
  intro t o i n ht ho hi h1 h4 hn
  have hd:decide ((i:Int)<(([4,2,2]:List Int).length:Int))=true:=by simp;omega
  simp only[hd,J1,aB,hn,JP]
  by_cases hlt:n<=t.length
  ·have e1:decide (((t.length:Nat):Int)<(n:Int))=false:=by simp;omega
   have hne:t.take n≠[]:=by intro e;have:=congrArg List.length e;rw[Ko,JX] at this;omega
   have htl:(t.take n).length=n:=by rw[Ko];omega
   simp only[e1,z8,J4,IH t n hlt,EB t n hlt,JP]
   rw[tR _ oM,gb hne]
   cases ha:(t.take n).all eY with
   |false=>rw[if_neg oS];rfl
   |true=>
    rw[Ll ⟨hlt,rfl⟩]
    simp only[JP,J3,J4]
    rw[Ez hne oM (jS (by rw[gb hne];exact ha))]
    simp only[JP,bY i oM]
    exact kR oT
  ·have e1:decide (((t.length:Nat):Int)<(n:Int))=true:=by simp;omega
   rw[if_neg oM,e1];rfl
 have fin:∀ (q:Option (List Int×Bool)) (b:Bool),b=(decide (s.length=8)&&s.all eY)->(∃ n,q=some (n,b)/\(b=true->n=[bJ 0 (s.take 4),bJ 0 ((s.drop 4).take 2),bJ 0 ((s.drop 4).drop 2)]))->∃ n,q=some (n,decide (s.length=8)&&s.all eY)/\((decide (s.length=8)&&s.all eY)=true->n=[bJ 0 (s.take 4),bJ 0 ((s.drop 4).take 2),bJ 0 ((s.drop 4).drop 2)]):=by
  rintro q b rfl h;exact h
 have s1:=step s [] 0 4 hs oS oM oM oM rfl
 rw[bM]
 rw[show((0:Nat):Int)=0 from rfl] at s1
 simp only
 rw[s1]
 by_cases c1:4<=s.length/\(s.take 4).all eY=true
 ·rw[Ll c1]
  simp only
  have s2:=step (s.drop 4) ([]++[bJ 0 (s.take 4)]) 1 2 oT oS oM oM oM rfl
  rw[bM]
  simp only
  rw[show((0+1:Nat):Int)=((1:Nat):Int) from rfl,s2]
  by_cases c2:2<=(s.drop 4).length/\((s.drop 4).take 2).all eY=true
  ·rw[Ll c2]
   simp only
   have s3:=step ((s.drop 4).drop 2) ([]++[bJ 0 (s.take 4)]++[bJ 0 ((s.drop 4).take 2)]) 2 2 oT oS oM oM oM rfl
   rw[bM]
   simp only
   rw[show((1+1:Nat):Int)=((2:Nat):Int) from rfl,s3]
   by_cases c3:2<=((s.drop 4).drop 2).length/\(((s.drop 4).drop 2).take 2).all eY=true
   ·rw[Ll c3]
    simp only
    rw[bM]
    have hd:decide (((2+1:Nat):Int)<(([4,2,2]:List Int).length:Int))=false:=by decide
    simp only[hd,J4,dg,Ku,JP,eh]
    have l2:(s.drop 4).length=s.length - 4:=by simp
    have l3:((s.drop 4).drop 2).length=s.length - 4 - 2:=by rw[K0,K0]
    have l4:(((s.drop 4).drop 2).drop 2).length=s.length - 4 - 2 - 2:=by rw[K0,K0,K0]
    refine fin _ (decide ((((s.drop 4).drop 2).drop 2)=[])) ?_ ⟨_,rfl,fun hh=> ?_⟩
    ·rw[hZ (l:=s) 4,c1.2,hZ (l:=s.drop 4) 2,c2.2,hZ (l:=(s.drop 4).drop 2) 2,c3.2]
     by_cases he:(((s.drop 4).drop 2).drop 2)=[]
     ·have:=congrArg List.length he
      rw[l4,JX] at this
      rw[he]
      simp;omega
     ·have hl:¬ s.length=8:=fun e=>he (J7.1 oM)
      rw[Lj he,Lj hl];rfl
    ·have he:=of_decide_eq_true hh
     have:=congrArg List.length he
     rw[l4,JX] at this
     rw[Ki (l:=(s.drop 4).drop 2) oM];rfl
   ·rw[if_neg c3]
    refine fin _ false ?_ ⟨_,rfl,fun hh=>by cases hh⟩
    symm
    rw[Bool.eq_false_iff]
    intro hh
    simp only[JO,JS] at hh
    refine c3 ⟨by simp;omega, ?_⟩
    have k1:=hh.2
    rw[hZ (l:=s) 4,hZ (l:=s.drop 4) 2,hZ (l:=(s.drop 4).drop 2) 2] at k1
    simp only[JO] at k1
    exact k1.2.2.1
  ·rw[if_neg c2]
   refine fin _ false ?_ ⟨_,rfl,fun hh=>by cases hh⟩
   symm
   rw[Bool.eq_false_iff]
   intro hh
   simp only[JO,JS] at hh
   refine c2 ⟨by simp;omega, ?_⟩
   have k1:=hh.2
   rw[hZ (l:=s) 4,hZ (l:=s.drop 4) 2] at k1
   simp only[JO] at k1
   exact k1.2.1
 ·rw[if_neg c1]
  refine fin _ false ?_ ⟨_,rfl,fun hh=>by cases hh⟩
  symm
  rw[Bool.eq_false_iff]
  intro hh
  simp only[JO,JS] at hh
  refine c1 ⟨by omega, ?_⟩
  have k1:=hh.2
  rw[hZ (l:=s) 4] at k1
  simp only[JO] at k1
  exact k1.1
theorem DB (s:List UInt8) (hs:s.length<=1000):∃ d e,lv s 1 1=some (d,e)/\decide (e=0)=ym s:=by
 obtain⟨n,hn,hv⟩:=Gf s hs
 have hr:∃ z,lu s 1 1=some (z,ym s):=by
  unfold lu ri;dsimp only
  rw[show decide ((1:Int)=1)=true from rfl]
  simp only[J1]
  rw[hn]
  unfold ym
  cases hc:(decide (s.length=8)&&s.all eY) with
  |false=>exact⟨_,rfl⟩
  |true=>
   rw[hv hc]
   have da:qf s:=fun c hcm=>by
    simp only[JO,Ke] at hc
    simpa[eY] using hc.2 c hcm
   obtain⟨z,hz⟩:=Gd (m:=bJ 0 ((s.drop 4).take 2)) (d:=bJ 0 ((s.drop 4).drop 2)) (wR (da.take 4) (KL _))
   refine⟨z, ?_⟩
   show(kE _ _ _).bind _=_
   rw[hz];rfl
 obtain⟨z,hz⟩:=hr
 have hf:mo 1=some true:=by
  unfold mo cU;dsimp only
  rw[wW];rfl
 unfold lv rj;dsimp only
 rw[hf,wW,hz]
 simp only[JP]
 cases ym s<;>exact⟨_,_,rfl,rfl⟩
theorem wX (l:List UInt8) (h1:l.length<=14):e_ l=some (if lL l=true then bJ 0 l else -1):=by
 unfold e_ cV;dsimp only
 rw[wT l oM]
 cases hd:lL l with
 |false=>rfl
 |true=>
  have hb:∀ (l:List UInt8) (n:Int),qf l->0<=n->bJ n l<(n+1) * 10^l.length:=by
   intro l
   induction l with
   |nil=>intro n _ _;simp[bJ];omega
   |cons c l ih=>
    intro n h h0
    have hc:=h c (Ks ..)
    have:=ih (10 * n+((c.toNat:Int) - 48)) (fun x hx=>h x (Ky _ hx)) oM
    refine Int.lt_of_lt_of_le this ?_
    rw[JT,LJ,Int.mul_comm (10^l.length) 10,<-Int.mul_assoc]
    exact Int.mul_le_mul_of_nonneg_right oM (Int.pow_nonneg oM)
  have hlt:=hb l 0 (jS hd) (KL _)
  have hp:(10:Int)^l.length<=10^14:=by
   have:=Nat.pow_le_pow_right (show 0<10 by omega) h1
   exact_mod_cast this
  obtain⟨r,hr,hv⟩:=wU l (jS hd) oM
  have hv:=hv oM
  subst hv
  simp only[JP,J3,J4,hr,K4]
theorem DC (s:List UInt8) (hs:s.length<=1000):∃ d e,eL s 1 1=some (d,e)/\decide (e=0)=ym s:=by
 unfold eL rn;dsimp only
 simp only[Aw,JP]
 have a1:(decide ((1:Int)<=1)&&decide ((1:Int)<=5))=true:=rfl
 have a2:(decide ((1:Int)<=1)&&decide ((1:Int)<=9900))=true:=rfl
 have a3:decide ((1:Int)=1)=true:=rfl
 have a4:decide ((1:Int)=2)=false:=rfl
 have a5:decide ((1:Int)=3)=false:=rfl
 have a6:decide ((1:Int)=4)=false:=rfl
 have a7:decide ((1:Int)=5)=false:=rfl
 simp only[a1,a2,a4,a5,a6,a7,J3,J4,mU,JP]
 have fin:∀ y m d:Int,(0<=y\/y= -1)->tS y m d=ym s->∃ z e,((dL y m d).bind fun x=>bif !decide (x.snd=0) then some ((0:Int),(10:Int)) else some (x.fst,0))=some (z,e)/\decide (e=0)=ym s:=by
  intro y m d hy hq
  obtain⟨n,e,k1,k2⟩:=Ge (m:=m) (d:=d) hy
  rw[k1,<-hq,<-k2]
  simp only[JP]
  cases decide (e=0)<;>exact⟨_,_,rfl,rfl⟩
 by_cases h8:s.length=8
 ·have d8:decide (((s.length:Nat):Int)=8)=true:=by simp;omega
  simp only[d8]
  have t1:dy s ((none:Option Int).getD 0) ((some (4:Int)).getD ((s.length:Nat):Int))=some (s.take 4):=IH s 4 oM
  have t2:dy s ((some (4:Int)).getD 0) ((some (6:Int)).getD ((s.length:Nat):Int))=some ((s.drop 4).take 2):=by
   simp only[Kr,dy]
   rw[Ll ⟨by omega,by omega,by omega⟩]
   simp[List.take_drop]
  have t3:dy s ((some (6:Int)).getD 0) ((none:Option Int).getD ((s.length:Nat):Int))=some ((s.drop 4).drop 2):=by
   rw[K2];exact EB s 6 oM
  simp only[t1,t2,t3,JP]
  have l1:(s.take 4).length=4:=by simp;omega
  have l2:((s.drop 4).take 2).length=2:=by simp;omega
  have l3:((s.drop 4).drop 2).length=2:=by simp;omega
  have n1:s.take 4≠[]:=fun e=>by rw[e] at l1;simp at l1
  have n2:(s.drop 4).take 2≠[]:=fun e=>by rw[e] at l2;simp at l2
  have n3:(s.drop 4).drop 2≠[]:=fun e=>by rw[e] at l3;simp at l3
  rw[wX _ oM,wX _ oM,wX _ oM,gb n1,gb n2,gb n3]
  simp only[JP]
  have hall:s.all eY=((s.take 4).all eY&&(((s.drop 4).take 2).all eY&&((s.drop 4).drop 2).all eY)):=by rw[hZ (l:=s) 4,hZ (l:=s.drop 4) 2]
  refine fin _ _ _ ?_ ?_
  ·split
   ·rename_i h
    exact .inl (wR (jS (by rw[gb n1];exact h)) (KL _))
   ·exact .inr rfl
  ·unfold ym
   rw[hall,Lb h8,J6]
   cases h1:(s.take 4).all eY with
   |false=>simp[tS]
   |true=>
    cases h2:((s.drop 4).take 2).all eY with
    |false=>simp[tS]
    |true=>
     cases h3:((s.drop 4).drop 2).all eY with
     |false=>simp[tS]
     |true=>simp
 ·have d8:decide (((s.length:Nat):Int)=8)=false:=by simp;omega
  simp only[d8]
  refine fin (-1) (-1) (-1) (.inr rfl) ?_
  unfold ym
  rw[Lj h8];rfl
def mc {α:Type} (st:Option α->α->Int):Option α->List α->Int
 |_,[]=>0
 |p,x::l=>if st p x=0 then mc st (some x) l else st p x
def lg {α:Type} (l:List α) (i:Nat):Option α:=if i=0 then none else l[i - 1]?
theorem iI {α A:Type} (l:List α) (st:Option α->α->Int) (ret:Int->A) {f:Int->Option (Int⊕(Int⊕A))} {K:Int->Option A}
  (hb:∀ (i:Nat) (e:α),l[i]?=some e->f (i:Int)=if st (lg l i) e=0 then some (.inl ((i+1:Nat):Int)) else some (.inr (.inr (ret (st (lg l i) e))))) (he:f (l.length:Int)=some (.inr (.inl (l.length:Int)))):
  (cR f 0).bind (eh K)=if mc st none l=0 then K (l.length:Int) else some (ret (mc st none l)):=by
 refine kS (X:=Nat) (fun i=>((i:Nat):Int)) (fun i=>l.length - i) (fun i=>i<=l.length/\mc st none l=mc st (lg l i) (l.drop i)) ?_ 0 ⟨Kf _,rfl⟩
 rintro i ⟨h1,h2⟩
 rcases J9 i l.length with hi|hi
 ·obtain⟨e,hx⟩:=dI hi
  have hd:l.drop i=e::l.drop (i+1):=by
   rw[K7 hi]
   rw[J0 hi] at hx
   simp only[JN] at hx;rw[hx]
  rw[hd] at h2
  simp only[mc] at h2
  by_cases hs:st (lg l i) e=0
  ·rw[Ll hs] at h2
   refine .inl ⟨i+1,⟨hi, ?_⟩,by omega,by rw[hb i e hx,Ll hs]⟩
   rw[h2]
   have:lg l (i+1)=some e:=by unfold lg;rw[if_neg oM];simpa using hx
   rw[this]
  ·rw[if_neg hs] at h2
   refine .inr ⟨_,by rw[hb i e hx,if_neg hs], ?_⟩
   rw[h2,if_neg hs];rfl
 ·have hl:i=l.length:=by omega
  subst hl
  rw[Le] at h2
  have h2:mc st none l=0:=h2
  exact .inr ⟨_,he,by rw[h2,Ll rfl];rfl⟩
theorem pN {α:Type} {st:Option α->α->Int}:∀ {l:List α} {p:Option α},mc st p l=0->∀ x∈l,∃ q,st q x=0
 |[],_,_,x,hx=>by cases hx
 |y::l,p,h,x,hx=>by
  unfold mc at h
  by_cases hs:st p y=0
  ·rw[Ll hs] at h
   rcases J2.1 hx with rfl|hx
   ·exact⟨p,hs⟩
   ·exact pN h x hx
  ·rw[if_neg hs] at h;exact absurd h hs
def iJ (c:UInt8):Bool:=(decide (65<=c.toNat)&&decide (c.toNat<=90))||(decide (97<=c.toNat)&&decide (c.toNat<=122))||decide (c.toNat=32)
def Ai (k:Int) (s:List UInt8):Bool:=if k=4 then Ey s else if k=5 then ym s else if k=2 then s.all iJ else if k=3 then s.all eY else true
def Di (d:aH) (s:List UInt8):Bool:=decide (1<=s.length/\s.length<=20)&&decide (d.fMin<=(s.length:Int)/\(s.length:Int)<=d.fMax)&&Ai d.fType s&&s.all (sk 33 126)
def JJ (a b:List UInt8):Bool:=Op.bytesLess a b||decide (a=b)
def ye (p:Option (List UInt8)) (s:List UInt8):Bool:=match p with|some q=>JJ s q|none=>false
def qe (d:aH) (p:Option (List UInt8)) (s:List UInt8):Int:=if Di d s=true then(if ye p s=true then 8 else 0) else 3
def sd (d:aH):Int:=
 if¬ (1<=d.fType/\d.fType<=5) then 4
 else if¬ (1<=d.fMin/\d.fMin<=d.fMax)\/1000<d.fMax then 1
 else if d.fType=5/\(8<d.fMin\/d.fMax<8) then 3
 else if 50<d.fCodes.length then 2
 else mc (qe d) none d.fCodes
def uJ (e:aY):Int:=
 if¬ (1<=e.fMost/\e.fMost<=20) then 1
 else if e.fParts=[] then 9
 else if 20<e.fParts.length then 2
 else mc (fun _ p=>sd p) none e.fParts
def Em (d:Df):Int:=if 50<d.fElements.length then 2 else mc (fun _ e=>uJ e) none d.fElements
def wn (p:Option Df) (d:Df):Int:=if vE d.fTag=false then 5 else if ye (p.map (·.fTag)) d.fTag=true then 8 else Em d
def n5 (l:List Df):Int:=if 100<l.length then 2 else mc wn none l
theorem sB (a b c:Int):fd a b c=some (decide (b<=a)&&decide (a<=c)):=by
 unfold fd eQ;dsimp only
 simp only[aW,JP]
theorem Ii (s:List UInt8) (k:Int) (hs:s.length<=20):gh s k=some (if k=1 then s.all (sk 32 126) else Ai k s):=by
 unfold gh eQ;dsimp only
 unfold Ai
 by_cases k4:k=4
 ·subst k4
  obtain⟨d,e,h1,h2⟩:=BS s oM
  rw[h1];simp[h2]
 by_cases k5:k=5
 ·subst k5
  obtain⟨d,e,h1,h2⟩:=DC s oM
  rw[h1];simp[h2]
 rw[Lj k4,Lj k5]
 simp only[J4,k4,k5,KG]
 have key:=pL s (fun c=>(!decide (k=1)||sk 32 126 c)&&(!decide (k=2)||iJ c)&&(!decide (k=3)||eY c)) false (f:=fun i:Int=>bif decide (i<(s.length:Int)) then(cx s i).bind fun e=>(mU (decide (k=1)) ((z8 (decide ((e.toNat:Int)<32)) (some (decide (126<(e.toNat:Int))))).bind fun v=>some v)).bind fun v=>bif v then dg (dg (some false)) else(mU (decide (k=2)) ((mU (decide (65<=(e.toNat:Int))) (some (decide ((e.toNat:Int)<=90)))).bind fun v=>(z8 v ((mU (decide (97<=(e.toNat:Int))) (some (decide ((e.toNat:Int)<=122)))).bind fun v=>some v)).bind fun v=>(z8 v (some (decide ((e.toNat:Int)=32)))).bind fun v=>some !v)).bind fun v=>bif v then dg (dg (some false)) else(mU (decide (k=3)) ((z8 (decide ((e.toNat:Int)<48)) (some (decide (57<(e.toNat:Int))))).bind fun v=>some v)).bind fun v=>bif v then dg (dg (some false)) else some (Sum.inl (IntKind.i64.wrap (i+1))) else dg (some (Sum.inl i))) (K:=fun _=>some true) (fun i e he=>by
   have hi:=b8 he
   have a1:(decide ((e.toNat:Int)<32)||decide (126<(e.toNat:Int)))= !sk 32 126 e:=by
    unfold sk;rw[J8];simp<;>omega
   have a2:(decide (65<=(e.toNat:Int))&&decide ((e.toNat:Int)<=90)||decide (97<=(e.toNat:Int))&&decide ((e.toNat:Int)<=122)||decide ((e.toNat:Int)=32))=iJ e:=by
    unfold iJ;rw[J8];simp<;>omega
   have a3:(decide ((e.toNat:Int)<48)||decide (57<(e.toNat:Int)))= !eY e:=by
    unfold eY;rw[J8];simp<;>omega
   simp only[bl hi,J1,aB,he,JP,bG,aW,bY i oM,a1,a2,a3]
   cases decide (k=1)<;>cases decide (k=2)<;>cases decide (k=3)<;>cases sk 32 126 e<;>cases iJ e<;>cases eY e<;>rfl) (by simp only[ak,J4];rfl)
 rw[key]
 by_cases k1:k=1
 ·subst k1
  have:s.all (fun c=>(!decide ((1:Int)=1)||sk 32 126 c)&&(!decide ((1:Int)=2)||iJ c)&&(!decide ((1:Int)=3)||eY c))=s.all (sk 32 126):=by
   congr 1;funext c;cases sk 32 126 c<;>rfl
  rw[this,Ll rfl]
  cases s.all (sk 32 126)<;>rfl
 ·by_cases k2:k=2
  ·subst k2
   have:s.all (fun c=>(!decide ((2:Int)=1)||sk 32 126 c)&&(!decide ((2:Int)=2)||iJ c)&&(!decide ((2:Int)=3)||eY c))=s.all iJ:=by
    congr 1;funext c;cases iJ c<;>rfl
   rw[this,if_neg k1,Ll rfl]
   cases s.all iJ<;>rfl
  ·by_cases k3:k=3
   ·subst k3
    have:s.all (fun c=>(!decide ((3:Int)=1)||sk 32 126 c)&&(!decide ((3:Int)=2)||iJ c)&&(!decide ((3:Int)=3)||eY c))=s.all eY:=by
     first|rfl|(congr 1;funext c;cases eY c<;>rfl)
    rw[this,if_neg k1,if_neg k2,Ll rfl]
    cases s.all eY<;>rfl
   ·have:s.all (fun c=>(!decide (k=1)||sk 32 126 c)&&(!decide (k=2)||iJ c)&&(!decide (k=3)||eY c))=true:=by
     rw[Ke];intro c _;simp[k1,k2,k3]
    rw[this,if_neg k1,if_neg k2,if_neg k3];rfl
theorem FW {s:List UInt8} (h:s.all (sk 33 126)=true):s.all (sk 32 126)=true:=by
 rw[Ke] at h⊢
 intro c hc
 have:=h c hc
 simp only[sk,JO,JS] at this⊢
 exact⟨KF oD this.1,this.2⟩
theorem BD {α:Type} {l:List α} {i:Nat} {e:α} (he:l[i]?=some e) (h0:0<i):∃ p,l[i - 1]?=some p/\lg l i=some p:=by
 obtain⟨p,hp⟩:=dI (l:=l) (i:=i - 1) (by have:=b8 he;omega)
 exact⟨p,hp,by unfold lg;rw[if_neg oM,hp]⟩
theorem BE {l:List (List UInt8)} {i:Nat} {e:List UInt8} (he:l[i]?=some e) (hl:l.length<=1000):
  mU (decide (0<(i:Int))) ((cx l (IntKind.i64.wrap ((i:Int) - 1))).bind fun e_1=>some (Op.bytesLess e e_1||decide (e=e_1)))=some (ye (lg l i) e):=by
 by_cases h0:0<i
 ·obtain⟨p,hp,hq⟩:=BD he h0
  have hi:=b8 he
  have hw:IntKind.i64.wrap ((i:Int) - 1)=((i - 1:Nat):Int):=by rw[eJ _ oM oM];omega
  have hd:decide (0<(i:Int))=true:=by simpa using h0
  rw[hw,aB,hp,hq,hd];rfl
 ·have hi:i=0:=by omega
  subst hi;rfl
theorem Ij (d:aH) {i:Nat} {s:List UInt8} (hs:d.fCodes[i]?=some s) (hl:d.fCodes.length<=1000):d7 d (i:Int)=some (qe d (lg d.fCodes i) s):=by
 unfold d7 rA;dsimp only
 rw[aB,hs]
 simp only[JP,sB,bG]
 unfold qe Di
 by_cases c1:1<=s.length/\s.length<=20
 ·by_cases c2:d.fMin<=(s.length:Int)/\(s.length:Int)<=d.fMax
  ·have b1:(!(decide ((1:Int)<=((s.length:Nat):Int))&&decide (((s.length:Nat):Int)<=20))|| !(decide (d.fMin<=((s.length:Nat):Int))&&decide (((s.length:Nat):Int)<=d.fMax)))=false:=by simp;omega
   rw[b1,Ii s d.fType c1.2,Lb c1,Lb c2]
   simp only[z8,J4,JP,J6]
   have fin:(cR (fun i:Int=>bif decide (i<(s.length:Int)) then(cx s i).bind fun e_1=>(z8 (decide ((e_1.toNat:Int)<33)) ((cx s i).bind fun e=>some (decide (126<(e.toNat:Int))))).bind fun v=>bif v then dg (dg (some (3:Int))) else some (Sum.inl (IntKind.i64.wrap (i+1))) else dg (some (Sum.inl i))) 0).bind (eh fun _=>(mU (decide (0<(i:Int))) ((cx d.fCodes (IntKind.i64.wrap ((i:Int) - 1))).bind fun e_1=>some (Op.bytesLess s e_1||decide (s=e_1)))).bind fun v=>bif v then some 8 else some 0)=some (if s.all (sk 33 126)=true then(if ye (lg d.fCodes i) s=true then 8 else 0) else 3):=by
    rw[BE hs hl]
    refine(pL s (sk 33 126) (3:Int) (fun i e he=> ?_) ?_).trans ?_
    ·have hi':=b8 he
     have h1:(decide ((e.toNat:Int)<33)||decide (126<(e.toNat:Int)))= !sk 33 126 e:=by
      unfold sk;rw[J8];simp<;>omega
     simp only[bl hi',J1,aB,he,JP,bG,bY i oM,h1]
     cases sk 33 126 e<;>rfl
    ·simp only[ak,J4];rfl
    ·cases s.all (sk 33 126)<;>cases ye (lg d.fCodes i) s<;>rfl
   by_cases k1:d.fType=1
   ·rw[Ll k1]
    have ht:Ai d.fType s=true:=by unfold Ai;rw[k1];rfl
    rw[ht,J6]
    cases ha:s.all (sk 32 126) with
    |true=>simp only[J3,J4];exact fin
    |false=>
     have:s.all (sk 33 126)=false:=by
      cases h:s.all (sk 33 126) with
      |false=>rfl
      |true=>rw[FW h] at ha;cases ha
     rw[this];rfl
   ·rw[if_neg k1]
    cases Ai d.fType s with
    |false=>rfl
    |true=>simp only[J3,J4,J6];exact fin
  ·have b1:(!(decide ((1:Int)<=((s.length:Nat):Int))&&decide (((s.length:Nat):Int)<=20))|| !(decide (d.fMin<=((s.length:Nat):Int))&&decide (((s.length:Nat):Int)<=d.fMax)))=true:=by
    simp only[J_,KE,KJ,Kp];omega
   rw[b1,Lj c2];simp[z8]
 ·have b1:(!(decide ((1:Int)<=((s.length:Nat):Int))&&decide (((s.length:Nat):Int)<=20))|| !(decide (d.fMin<=((s.length:Nat):Int))&&decide (((s.length:Nat):Int)<=d.fMax)))=true:=by
   simp only[J_,KE,KJ,Kp];omega
  rw[b1,Lj c1];simp[z8]
theorem Ik (d:aH):d9 d=some (sd d):=by
 unfold d9 rD;dsimp only
 simp only[sB,JP,bG,aW]
 unfold sd
 by_cases c1:1<=d.fType/\d.fType<=5
 ·rw[show(decide (1<=d.fType)&&decide (d.fType<=5))=true by simp[c1],if_neg (not_not_intro c1)]
  simp only[J3,J4]
  by_cases c2:¬ (1<=d.fMin/\d.fMin<=d.fMax)\/1000<d.fMax
  ·rw[Ll c2,show(!(decide (1<=d.fMin)&&decide (d.fMin<=d.fMax))||decide (1000<d.fMax))=true by simp only[J_,KE,KJ,Kp,JS];omega];rfl
  ·rw[if_neg c2,show(!(decide (1<=d.fMin)&&decide (d.fMin<=d.fMax))||decide (1000<d.fMax))=false by simp only[KR,Bool.not_eq_false',JO,Kp,JS];omega]
   simp only[J4]
   by_cases c3:d.fType=5/\(8<d.fMin\/d.fMax<8)
   ·rw[Ll c3,show(decide (d.fType=5)&&(decide (8<d.fMin)||decide (d.fMax<8)))=true by simp[c3.1];exact c3.2];rfl
   ·rw[if_neg c3,show(decide (d.fType=5)&&(decide (8<d.fMin)||decide (d.fMax<8)))=false by simp only[KJ,Kp,KR];omega]
    simp only[J4]
    by_cases c4:50<d.fCodes.length
    ·rw[Ll c4,show decide (50<((d.fCodes.length:Nat):Int))=true by simp;omega];rfl
    ·rw[if_neg c4,show decide (50<((d.fCodes.length:Nat):Int))=false by simp;omega]
     simp only[J4]
     refine(iI d.fCodes (qe d) (fun n=>n) (fun i e he=> ?_) ?_).trans ?_
     ·have hi':=b8 he
      simp only[bl hi',J1,Ij d he oM,JP,bY i oM]
      by_cases hz:qe d (lg d.fCodes i) e=0
      ·rw[Ll hz,Lb hz];rfl
      ·rw[if_neg hz,Lj hz];rfl
     ·simp only[ak,J4];rfl
     ·split
      ·rename_i h;rw[h]
      ·rfl
 ·rw[show(decide (1<=d.fType)&&decide (d.fType<=5))=false by simp only[KJ,Kp];omega,Ll c1];rfl
theorem I4 (d:Df):eu d=some (Em d):=by
 unfold eu rE;dsimp only
 unfold Em
 by_cases c4:50<d.fElements.length
 ·rw[Ll c4,show decide (50<((d.fElements.length:Nat):Int))=true by simp;omega];rfl
 ·rw[if_neg c4,show decide (50<((d.fElements.length:Nat):Int))=false by simp;omega]
  simp only[J4]
  refine(iI d.fElements (fun _ e=>uJ e) (fun n=>n) (fun i e he=> ?_) ?_).trans ?_
  ·have hi':=b8 he
   simp only[bl hi',J1,aB,he,JP,sB,bY i oM,Ei]
   unfold uJ
   by_cases d1:1<=e.fMost/\e.fMost<=20
   ·rw[show(decide (1<=e.fMost)&&decide (e.fMost<=20))=true by simp[d1]]
    simp only[J3,J4,d1,and_self,not_true_eq_false,KG]
    by_cases d2:e.fParts=[]
    ·simp only[d2,K4];rfl
    ·simp only[d2,KG,Lh,J4]
     by_cases d3:20<e.fParts.length
     ·simp only[d3,K4]
      rw[show decide (20<((e.fParts.length:Nat):Int))=true by simp;omega];rfl
     ·simp only[d3,KG]
      rw[show decide (20<((e.fParts.length:Nat):Int))=false by simp;omega]
      simp only[J4]
      refine(iI e.fParts (fun _ p=>sd p) (fun n=> .inr (.inr n)) (fun i e he=> ?_) ?_).trans ?_
      ·have hi':=b8 he
       simp only[bl hi',J1,aB,he,JP,Ik,bY i oM]
       by_cases hz:sd e=0
       ·simp only[hz,K4,Lo,J3,J4]
       ·simp only[hz,KG,Lh,Kt,J1];rfl
      ·simp only[ak,J4];rfl
      ·rfl
   ·rw[show(decide (1<=e.fMost)&&decide (e.fMost<=20))=false by simp only[KJ,Kp];omega]
    simp only[d1,not_false_eq_true,K4];rfl
  ·simp only[ak,J4];rfl
  ·split
   ·rename_i h;rw[h]
   ·rfl
theorem zm {l:List Df} {i:Nat} {e:Df} (he:l[i]?=some e) (hl:l.length<=1000):
  mU (decide (0<(i:Int))) ((cx l (i:Int)).bind fun e=>(cx l (IntKind.i64.wrap ((i:Int) - 1))).bind fun e_1=>some (Op.bytesLess e.fTag e_1.fTag||decide (e.fTag=e_1.fTag)))=some (ye ((lg l i).map (·.fTag)) e.fTag):=by
 rw[aB,he]
 by_cases h0:0<i
 ·obtain⟨p,hp,hq⟩:=BD he h0
  have hi:=b8 he
  have hw:IntKind.i64.wrap ((i:Int) - 1)=((i - 1:Nat):Int):=by rw[eJ _ oM oM];omega
  have hd:decide (0<(i:Int))=true:=by simpa using h0
  rw[hw,aB,hp,hq,hd];rfl
 ·have hi:i=0:=by omega
  subst hi;rfl
theorem Il (l:List Df) (hl:∀ d∈l,d.fTag.length<=MX):d_ l=some (n5 l):=by
 unfold d_ rF;dsimp only
 unfold n5
 by_cases c4:100<l.length
 ·rw[Ll c4,show decide (100<((l.length:Nat):Int))=true by simp;omega];rfl
 ·rw[if_neg c4,show decide (100<((l.length:Nat):Int))=false by simp;omega]
  simp only[J4]
  refine(iI l wn (fun n=>n) (fun i e he=> ?_) ?_).trans ?_
  ·have hi':=b8 he
   have hm:=JU he
   have hp:=zm he oM
   simp only[bl hi',J1]
   rw[hp]
   simp only[aB,he,JP,HA _ (hl e hm),I4,bY i oM]
   unfold wn
   cases vE e.fTag with
   |false=>rfl
   |true=>
    simp only[J3,J4,Lf,KG]
    cases ye ((lg l i).map (·.fTag)) e.fTag with
    |true=>rfl
    |false=>
     simp only[J4,Kg,KG]
     by_cases hz:Em e=0
     ·rw[Ll hz,Lb hz];rfl
     ·rw[if_neg hz,Lj hz];rfl
  ·simp only[ak,J4];rfl
  ·split
   ·rename_i h;rw[h]
   ·rfl
def yc (b:UInt8):Bool:=decide (97<=(b.toNat:Int))&&decide ((b.toNat:Int)<=122)
def qv (b:UInt8):Bool:=yc b||(decide ((b.toNat:Int)=45)||(decide (48<=(b.toNat:Int))&&decide ((b.toNat:Int)<=57)))
def sy:List UInt8:=[97,98,99,100,101,102,103,104,105,106,107,108,109,110,111,112,113,114,115,116,117,118,119,120,121,122,48,49,50,51,52,53,54,55,56,57,45]
theorem Ef:(List.range 256).all (fun n=>sy.contains (UInt8.ofNat n)==qv (UInt8.ofNat n))=true:=by decide+kernel
theorem FP (b:UInt8):sy.contains b=qv b:=by
 have:=Ke.1 Ef b.toNat (KO.2 b.toNat_lt)
 have hb:UInt8.ofNat b.toNat=b:=by simp
 rw[hb] at this
 simpa using this
theorem Eg (l:List UInt8):decide (Lib.trimS l sy=[])=l.all qv:=by
 rw[J8,JS,yb,Ke]
 simp only[FP]
def ct:List UInt8->Bool
 |[]=>false
 |b::l=>decide (l.length<=39)&&yc b&&l.all qv
theorem CC (l:List UInt8) (hl:l.length<=MX):qc l=some (ct l):=by
 have ht:cP l sy=some (Lib.trimS l sy):=by
  unfold cP
  rw[Ll ⟨hl,by decide,by decide⟩]
 have hu:([97,98,99,100,101,102,103,104,105,106,107,108,109,110,111,112,113,114,115,116,117,118,119,120,121,122,48,49,50,51,52,53,54,55,56,57,45]:List UInt8)=sy:=rfl
 unfold qc aV;dsimp only
 rw[hu]
 cases l with
 |nil=>rfl
 |cons b l=>
  have hg:cx (b::l) 0=some b:=rfl
  simp only[hg,JP,bG,ht,Eg,ct]
  have h1:decide (((b::l).length:Int)<1)=false:=by simp only[JT];apply Lj;omega
  have h2:decide (40<((b::l).length:Int))= !decide (l.length<=39):=by simp only[JT];rw[J8];simp<;>omega
  have h3:(decide ((b.toNat:Int)<97)||decide (122<(b.toNat:Int)))= !yc b:=by unfold yc;rw[J8];simp
  rw[h1,h2,Kj,Bool.or_assoc,h3]
  cases hb:yc b with
  |false=>simp
  |true=>cases decide (l.length<=39)<;>simp[qv,hb]
def uG (i:Nat) (b:UInt8):Bool:=yc b||(decide (i≠0)&&qv b)
theorem CD (l:List UInt8) (hl:l.length<=MX):fi l=some (ct l):=by
 unfold MX at hl
 unfold fi aV;dsimp only
 generalize hf:(fun s:Int=>_)=f
 have key:=zl (f:=f) l (fun i (_:Unit)=>(i:Int)) (fun i _ e=>if uG i e=true then some (.inl ()) else some (.inr (.inr false))) (fun _=>some (Sum.inl (l.length:Int))) (fun i e s he=>by
  subst hf
  have hi:=b8 he
  simp only[bl hi,J1,aB,he,JP,aW,bG,bY i oM]
  have h0:decide ((i:Int)=0)=decide (i=0):=by congr 1;apply propext;omega
  have h1:(!(decide (97<=(e.toNat:Int))&&decide ((e.toNat:Int)<=122))&&(decide ((i:Int)=0)||(!decide ((e.toNat:Int)=45)&& !(decide (48<=(e.toNat:Int))&&decide ((e.toNat:Int)<=57)))))= !uG i e:=by
   rw[h0]
   unfold uG qv yc
   cases decide (97<=(e.toNat:Int))<;>cases decide ((e.toNat:Int)<=122)<;>by_cases hi0:i=0<;>simp[hi0]
  rw[h1]
  cases uG i e<;>rfl) (fun s=>by
  subst hf
  simp only[ak,J4];rfl) ()
 rw[show((0:Nat):Int)=0 from rfl] at key
 rw[key]
 have h2:∀ (t:List UInt8) (i:Nat),0<i->yd (fun i (_:Unit) e=>if uG i e=true then some (.inl ()) else some (.inr (.inr false))) (fun _=>some (Sum.inl (l.length:Int))) t i ()=if t.all qv=true then some (.inl (l.length:Int)) else some (.inr false):=by
  intro t
  induction t with
  |nil=>intro i _;rfl
  |cons b t ih=>
   intro i hi
   simp only[yd]
   have:uG i b=qv b:=by
    unfold uG
    rw[Lb (show i≠0 by omega),J6]
    unfold qv
    cases yc b<;>simp
   rw[this]
   cases hb:qv b with
   |true=>simp only[K4,ih (i+1) oM,Lk,hb,J6]
   |false=>simp[hb]
 cases l with
 |nil=>rfl
 |cons b l=>
  simp only[yd]
  have h3:uG 0 b=yc b:=by unfold uG;cases yc b<;>simp
  have h4:decide (((b::l).length:Int)<=40)=decide (l.length<=39):=by simp only[JT];rw[J8];simp;omega
  rw[h3]
  cases hb:yc b with
  |false=>simp[eh,hb,ct]
  |true=>
   simp only[K4]
   rw[h2 l 1 oM]
   cases hl:l.all qv with
   |true=>simp[eh,hb,hl,ct,aW];try omega
   |false=>simp[eh,hb,hl,ct]
def yD {α S A:Type} (g:S->α->S⊕A) (fin:S->A):List α->S->A
 |[],s=>fin s
 |e::l,s=>match g s e with
  | .inl s'=>yD g fin l s'
  | .inr a=>a
theorem BF {α S T A:Type} (l:List α) (mk:Nat->S->T) (g:S->α->S⊕A) (fin:S->A) (I:S->Prop) {f:T->Option (T⊕A)}
  (hb:∀ (i:Nat) (e:α) (s:S),l[i]?=some e->I s->f (mk i s)=some (match g s e with| .inl s'=> .inl (mk (i+1) s')| .inr a=> .inr a))
  (hi:∀ (e:α) (s s':S),e∈l->I s->g s e= .inl s'->I s') (he:∀ s,I s->f (mk l.length s)=some (.inr (fin s))) (s:S) (h0:I s):cR f (mk 0 s)=some (yD g fin l s):=by
 have:∀ (t:List α) (i:Nat) (s:S),l.drop i=t->i<=l.length->I s->cR f (mk i s)=some (yD g fin t s):=by
  intro t
  induction t with
  |nil=>
   intro i s hd hle hs
   have:=uH hd hle
   subst this
   rw[bM,he s hs]
   rfl
  |cons e t ih=>
   intro i s hd hle hs
   obtain⟨h1,h2,h3⟩:=zk hd
   rw[bM,hb i e s h1 hs]
   simp only[yD]
   cases hg:g s e with
   |inr a=>rfl
   |inl s'=>exact ih (i+1) s' h3 h2 (hi e s s' (JU h1) hs hg)
 exact this l 0 s rfl (Kf _) h0
def iK {α:Type} (g:Int->α->Int×Int):List α->Int->Int×Int
 |[],many=>(0,many)
 |b::l,many=>if(g many b).1=0 then iK g l (g many b).2 else g many b
def qI (D:List UInt8->Bool) (rec:List Sl->Int->Int×Int) (deep many:Int) (x:Sl):Int×Int:=
 if 300<many+1\/6<deep then(2,many+1)
 else if(jR x||na x)=false then(3,many+1)
 else if x.fName≠[]/\ct x.fName=false then(5,many+1)
 else if x.fName=[]/\D x.fTag=false then(9,many+1)
 else if¬ (0<=x.fMin/\x.fMin<=x.fMax)\/¬ (1<=x.fMax/\x.fMax<=1000) then(1,many+1)
 else if x.fName=[] then(0,many+1)
 else rec x.fItems (many+1)
def I5 (D:List UInt8->Bool) (rec:List Sl->Int->Int×Int) (deep:Int) (l:List Sl) (many:Int):Int×Int:=
 if l=[] then(9,many) else if 50<l.length then(2,many) else iK (qI D rec deep) l many
def o6 (D:List UInt8->Bool):Nat->List Sl->Int->Int->Int×Int
 |0,_,_,many=>(9,many)
 |k+1,l,deep,many=>I5 D (fun it m=>o6 D k it (deep+1) m) deep l many
theorem Dj {α:Type} {g:Int->α->Int×Int} (hg:∀ many b,0<=many->(g many b).1=0->many<=(g many b).2/\(g many b).2<=300):∀ {l:List α} {many:Int},0<=many->many<=300->(iK g l many).1=0->many<=(iK g l many).2/\(iK g l many).2<=300
 |[],many,_,h1,_=>⟨KL _,h1⟩
 |b::l,many,h0,h1,h=>by
  unfold iK at h⊢
  by_cases hb:(g many b).1=0
  ·rw[Ll hb] at h⊢
   obtain⟨k1,k2⟩:=hg many b h0 hb
   obtain⟨q1,q2⟩:=Dj hg oM k2 h
   exact⟨by omega,q2⟩
  ·rw[if_neg hb] at h;exact absurd h hb
structure Im (D:List UInt8->Bool) (x:Sl):Prop where
 ok:Ej x
 name:x.fName≠[]->ct x.fName=true
 tag:x.fName=[]->D x.fTag=true
 min:0<=x.fMin/\x.fMin<=x.fMax
 max:1<=x.fMax/\x.fMax<=1000
theorem Dk {D:List UInt8->Bool} {rec:List Sl->Int->Int×Int} {deep many:Int} {x:Sl} (h:(qI D rec deep many x).1=0):
  many+1<=300/\deep<=6/\Im D x/\((x.fName=[]/\qI D rec deep many x=(0,many+1))\/(x.fName≠[]/\qI D rec deep many x=rec x.fItems (many+1))):=by
 unfold qI at h⊢
 split at h
 ·cases h
 rename_i c1
 rw[if_neg c1]
 split at h
 ·cases h
 rename_i c2
 rw[if_neg c2]
 split at h
 ·cases h
 rename_i c3
 rw[if_neg c3]
 split at h
 ·cases h
 rename_i c4
 rw[if_neg c4]
 split at h
 ·cases h
 rename_i c5
 rw[if_neg c5]
 have hI:Im D x:=by
  refine⟨?_,fun hn=> ?_,fun hn=> ?_,by omega,by omega⟩
  ·have:(jR x||na x)=true:=by
    cases hv:(jR x||na x) with
    |true=>rfl
    |false=>exact absurd hv c2
   exact(J_ _ _).mp this
  ·cases hv:ct x.fName with
   |true=>rfl
   |false=>exact absurd ⟨hn,hv⟩ c3
  ·cases hv:D x.fTag with
   |true=>rfl
   |false=>exact absurd ⟨hn,hv⟩ c4
 refine⟨by omega,by omega,hI, ?_⟩
 by_cases hn:x.fName=[]
 ·rw[Ll hn];exact .inl ⟨hn,rfl⟩
 ·rw[if_neg hn];exact .inr ⟨hn,rfl⟩
theorem se (D:List UInt8->Bool):∀ (k:Nat) {l:List Sl} {deep many:Int},0<=many->many<=300->(o6 D k l deep many).1=0->many<=(o6 D k l deep many).2/\(o6 D k l deep many).2<=300
 |0,_,_,_,_,_,h=>by cases h
 |k+1,l,deep,many,h0,h1,h=>by
  unfold o6 I5 at h⊢
  split at h
  ·cases h
  rename_i c1
  rw[if_neg c1]
  split at h
  ·cases h
  rename_i c2
  rw[if_neg c2]
  refine Dj (fun m x hm hx=> ?_) h0 h1 h
  obtain⟨q1, -, -,q4⟩:=Dk hx
  rcases q4 with⟨_,q⟩|⟨_,q⟩
  ·rw[q];exact⟨by simp only;omega,by simp only;omega⟩
  ·rw[q] at hx⊢
   obtain⟨k1,k2⟩:=se D k oM oM hx
   exact⟨by omega,k2⟩
def Au (D:List UInt8->Bool):Nat->List Sl->Prop
 |0,_=>False
 |k+1,l=>l≠[]/\l.length<=50/\∀ x∈l,Im D x/\(x.fName≠[]->Au D k x.fItems)
def k8:Nat->List Sl->Nat
 |0,_=>0
 |k+1,l=>(l.map fun x=>if x.fName=[] then 1 else 1+k8 k x.fItems).sum
theorem uK (D:List UInt8->Bool):∀ (k:Nat) (l:List Sl) (deep many:Int),(o6 D k l deep many).1=0->Au D k l/\(o6 D k l deep many).2=many+k8 k l
 |0,_,_,_,h=>by cases h
 |k+1,l,deep,many,h=>by
  unfold o6 I5 at h⊢
  split at h
  ·cases h
  rename_i c1
  rw[if_neg c1]
  split at h
  ·cases h
  rename_i c2
  rw[if_neg c2]
  have key:∀ (l:List Sl) (many:Int),(iK (qI D (fun it m=>o6 D k it (deep+1) m) deep) l many).1=0->(∀ x∈l,Im D x/\(x.fName≠[]->Au D k x.fItems))/\(iK (qI D (fun it m=>o6 D k it (deep+1) m) deep) l many).2=many+((l.map fun x=>if x.fName=[] then 1 else 1+k8 k x.fItems).sum:Nat):=by
   intro l
   induction l with
   |nil=>intro many _;exact⟨(fun x hx=>by cases hx),by simp[iK]⟩
   |cons x l ih=>
    intro many h
    unfold iK at h⊢
    by_cases hb:(qI D (fun it m=>o6 D k it (deep+1) m) deep many x).1=0
    ·rw[Ll hb] at h⊢
     obtain⟨-, -,q3,q4⟩:=Dk hb
     obtain⟨k1,k2⟩:=ih _ h
     have hone:(x.fName≠[]->Au D k x.fItems)/\(qI D (fun it m=>o6 D k it (deep+1) m) deep many x).2=many+((if x.fName=[] then 1 else 1+k8 k x.fItems:Nat):Int):=by
      rcases q4 with⟨hn,q⟩|⟨hn,q⟩
      ·rw[q,Ll hn];exact⟨fun h=>absurd hn h,rfl⟩
      ·rw[q] at hb⊢
       obtain⟨p1,p2⟩:=uK D k x.fItems (deep+1) (many+1) hb
       rw[if_neg hn]
       exact⟨fun _=>p1,by rw[p2];omega⟩
     refine⟨fun y hy=> ?_, ?_⟩
     ·rcases J2.1 hy with rfl|hy
      ·exact⟨q3,hone.1⟩
      ·exact k1 y hy
     ·rw[k2,hone.2]
      simp only[JZ,List.sum_cons]
      omega
    ·rw[if_neg hb] at h;exact absurd h hb
  obtain⟨k1,k2⟩:=key l many h
  exact⟨⟨c1,by omega,k1⟩,k2⟩
theorem Au.len {D:List UInt8->Bool} {k:Nat} {l:List Sl} (h:Au D k l):l.length<=50:=by
 cases k with
 |zero=>exact h.elim
 |succ k=>exact h.2.1
theorem Au.it {D:List UInt8->Bool} {k:Nat} {l:List Sl} (h:Au D k l) {x:Sl} (hx:x∈l):Im D x/\(x.fName≠[]->Au D (k - 1) x.fItems):=by
 cases k with
 |zero=>exact h.elim
 |succ k=>exact h.2.2 x hx
def wG (rec:List Sl->List (List UInt8)) (x:Sl):List (List UInt8):=if x.fName=[] then[] else x.fName::rec x.fItems
def sC:Nat->List Sl->List (List UInt8)
 |0,_=>[]
 |k+1,l=>l.flatMap (wG (sC k))
theorem CI:∀ (k:Nat) (l:List Sl),(sC k l).length<=k8 k l
 |0,_=>JW _
 |k+1,l=>by
  unfold sC k8
  induction l with
  |nil=>simp
  |cons x l ih=>
   simp only[KV,JR,JZ,List.sum_cons]
   have h1:(wG (sC k) x).length<=if x.fName=[] then 1 else 1+k8 k x.fItems:=by
    unfold wG
    split
    ·simp
    ·have:=CI k x.fItems;simp;omega
   omega
def md:List (List UInt8)->List (List UInt8)->Bool
 |_,[]=>false
 |seen,t::l=>seen.contains t||md (seen++[t]) l
def yf (S:List UInt8->Bool) (g:Bool):Nat->List (List UInt8)->Bool
 |_,[]=>false
 |i,t::l=>(!(g&&decide (i=0))&&S t)||yf S g (i+1) l
def Ga (rec:List Sl->(List UInt8->Bool)->Bool) (S:List UInt8->Bool):List Sl->Bool
 |[]=>false
 |x::l=>(!decide (x.fName=[])&&rec x.fItems (fun t=>S t||((x::l).map cH).contains t))||Ga rec S l
def zn:Nat->List Sl->(List UInt8->Bool)->Bool->Bool
 |0,_,_,_=>false
 |k+1,l,S,g=>yf S g 0 (l.map cH)||md [] (l.map cH)||Ga (fun it S'=>zn k it S' true) S l
theorem nc {α:Type} {l:List α} {i:Nat} {e:α} (h:l[i]?=some e):l.drop i=e::l.drop (i+1):=by
 have hi:=b8 h
 rw[K7 hi]
 rw[J0 hi] at h
 simp only[JN] at h;rw[h]
theorem BG {α R:Type} {g:Int->α->Int×Int} {ret:Int×Int->R}:∀ {l:List α} {many:Int} {fin:Int->(Int×Int)⊕R},
  yD (fun s e=>if(g s e).1=0 then(.inl (g s e).2:Int⊕((Int×Int)⊕R)) else .inr (.inr (ret (g s e)))) fin l many=if(iK g l many).1=0 then fin (iK g l many).2 else .inr (ret (iK g l many))
 |[],many,fin=>by simp[yD,iK]
 |b::l,many,fin=>by
  unfold yD iK
  by_cases hb:(g many b).1=0
  ·simp only[hb,K4];exact BG
  ·simp only[hb,KG]
theorem BH (D:List UInt8->Bool) (rec:List Sl->Int->Int×Int) (deep many:Int) (x:Sl):
  (300<many+1\/6<deep)/\qI D rec deep many x=(2,many+1)
  \/¬ (300<many+1\/6<deep)/\(jR x||na x)=false/\qI D rec deep many x=(3,many+1)
  \/¬ (300<many+1\/6<deep)/\(jR x||na x)=true/\(x.fName≠[]/\ct x.fName=false)/\qI D rec deep many x=(5,many+1)
  \/¬ (300<many+1\/6<deep)/\(jR x||na x)=true/\¬ (x.fName≠[]/\ct x.fName=false)/\(x.fName=[]/\D x.fTag=false)/\qI D rec deep many x=(9,many+1)
  \/¬ (300<many+1\/6<deep)/\(jR x||na x)=true/\¬ (x.fName≠[]/\ct x.fName=false)/\¬ (x.fName=[]/\D x.fTag=false)/\(¬ (0<=x.fMin/\x.fMin<=x.fMax)\/¬ (1<=x.fMax/\x.fMax<=1000))/\qI D rec deep many x=(1,many+1)
  \/¬ (300<many+1\/6<deep)/\(jR x||na x)=true/\¬ (x.fName≠[]/\ct x.fName=false)/\¬ (x.fName=[]/\D x.fTag=false)/\¬ (¬ (0<=x.fMin/\x.fMin<=x.fMax)\/¬ (1<=x.fMax/\x.fMax<=1000))/\qI D rec deep many x=if x.fName=[] then(0,many+1) else rec x.fItems (many+1):=by
 unfold qI
 by_cases c1:300<many+1\/6<deep
 ·exact .inl ⟨c1,Ll c1⟩
 refine .inr ?_
 rw[if_neg c1]
 cases c2:(jR x||na x) with
 |false=>exact .inl ⟨c1,rfl,rfl⟩
 |true=>
  refine .inr ?_
  simp only[Lf,KG]
  by_cases c3:x.fName≠[]/\ct x.fName=false
  ·exact .inl ⟨c1,trivial,c3,Ll c3⟩
  refine .inr ?_
  rw[if_neg c3]
  by_cases c4:x.fName=[]/\D x.fTag=false
  ·exact .inl ⟨c1,trivial,c3,c4,Ll c4⟩
  refine .inr ?_
  rw[if_neg c4]
  by_cases c5:¬ (0<=x.fMin/\x.fMin<=x.fMax)\/¬ (1<=x.fMax/\x.fMax<=1000)
  ·exact .inl ⟨c1,trivial,c3,c4,c5,Ll c5⟩
  ·exact .inr ⟨c1,trivial,c3,c4,c5,if_neg c5⟩
theorem Dl (s:ah) (hs:s.fDefs.length<=1000):∀ (k:Nat) (deep:Nat) (l:List Sl) (many:Int) (fu:Nat),deep<=7->8<=k+deep->k+1<=fu->0<=many->many<=300->(∀ b∈l,At b)->
  cq fu s l (deep:Int) many=some ((o6 (ay s.fDefs) k l deep many).2,(o6 (ay s.fDefs) k l deep many).1)
 |0,deep,_,_,_,h1,h2,_,_,_,_=>by omega
 |k+1,deep,l,many,0,_,_,h3,_,_,_=>by omega
 |k+1,deep,l,many,fu+1,h1,h2,h3,h4,h5,hl=>by
  rw[kb];unfold rB;dsimp only;simp only[ka]
  unfold o6 I5
  rw[Ei]
  by_cases c0:l=[]
  ·rw[Lb c0,Ll c0];rfl
  rw[Lj c0,if_neg c0]
  simp only[J4]
  by_cases c50:50<l.length
  ·rw[Ll c50,show decide (50<((l.length:Nat):Int))=true by simp;omega];rfl
  rw[if_neg c50,show decide (50<((l.length:Nat):Int))=false by simp;omega]
  simp only[J4]
  have hfb:∀ m b,0<=m->(qI (ay s.fDefs) (fun it m=>o6 (ay s.fDefs) k it ((deep:Int)+1) m) deep m b).1=0->m<=(qI (ay s.fDefs) (fun it m=>o6 (ay s.fDefs) k it ((deep:Int)+1) m) deep m b).2/\(qI (ay s.fDefs) (fun it m=>o6 (ay s.fDefs) k it ((deep:Int)+1) m) deep m b).2<=300:=fun m b hm hx=>by
   obtain⟨q1, -, -,q4⟩:=Dk hx
   rcases q4 with⟨_,q⟩|⟨_,q⟩
   ·rw[q];exact⟨by simp only;omega,by simp only;omega⟩
   ·rw[q] at hx⊢
    obtain⟨k1,k2⟩:=se _ k oM oM hx
    exact⟨by omega,k2⟩
  refine b0 (BF l (fun i (s:Int)=>(s,(i:Int))) (fun m e=>if(qI (ay s.fDefs) (fun it m=>o6 (ay s.fDefs) k it ((deep:Int)+1) m) deep m e).1=0 then .inl (qI (ay s.fDefs) (fun it m=>o6 (ay s.fDefs) k it ((deep:Int)+1) m) deep m e).2 else .inr (.inr ((qI (ay s.fDefs) (fun it m=>o6 (ay s.fDefs) k it ((deep:Int)+1) m) deep m e).2,(qI (ay s.fDefs) (fun it m=>o6 (ay s.fDefs) k it ((deep:Int)+1) m) deep m e).1)))
   (fun m=> .inl (m,(l.length:Int))) (fun m=>0<=m/\m<=300) (fun i e m he hm=> ?_) (fun e m m' he hm hg=> ?_) (fun m hm=> ?_) many ⟨h4,h5⟩) ?_
  ·have hi:=b8 he
   have hmem:=JU he
   have hb:=hl e hmem
   simp only[bl hi,J1,aB,he,JP,bY i oM,fh,bG]
   rw[eJ (m+1) oM oM,HD e hb]
   simp only[JP,I3 e hb,aW,CD _ hb.name,sB,bG]
   obtain⟨n,hn,hnd⟩:=GX s e.fTag hs
   have ha:mU (decide (e.fName=[])) ((dO s e.fTag).bind fun x=>some (decide (x<0)))=some (decide (e.fName=[])&& !ay s.fDefs e.fTag):=by
    rw[hn];simp only[JP,aW,hnd]
   rw[ha]
   simp only[JP]
   rcases BH (ay s.fDefs) (fun it m=>o6 (ay s.fDefs) k it ((deep:Int)+1) m) deep m e with⟨c1,q⟩|⟨c1,c2,q⟩|⟨c1,c2,c3,q⟩|⟨c1,c2,c3,c4,q⟩|⟨c1,c2,c3,c4,c5,q⟩|⟨c1,c2,c3,c4,c5,q⟩
   ·rw[q,show(decide (300<m+1)||decide (6<(deep:Int)))=true by simpa using c1];rfl
   ·rw[q,show(decide (300<m+1)||decide (6<(deep:Int)))=false by simpa using c1]
    have:(!jR e&& !na e)=true:=by simpa using c2
    rw[this];rfl
   ·have h2:(!jR e&& !na e)=false:=by
     cases hv:jR e with
     |true=>rfl
     |false=>rw[hv] at c2;simp only[Kj] at c2;rw[c2];rfl
    rw[q,show(decide (300<m+1)||decide (6<(deep:Int)))=false by simpa using c1,h2,Lj c3.1,c3.2];rfl
   ·have h2:(!jR e&& !na e)=false:=by
     cases hv:jR e with
     |true=>rfl
     |false=>rw[hv] at c2;simp only[Kj] at c2;rw[c2];rfl
    rw[q,show(decide (300<m+1)||decide (6<(deep:Int)))=false by simpa using c1,h2,Lb c4.1,c4.2];rfl
   ·have h2:(!jR e&& !na e)=false:=by
     cases hv:jR e with
     |true=>rfl
     |false=>rw[hv] at c2;simp only[Kj] at c2;rw[c2];rfl
    have h3:(!decide (e.fName=[])&& !ct e.fName)=false:=by
     by_cases hv:e.fName=[]
     ·rw[Lb hv];rfl
     ·have:ct e.fName=true:=by
       cases hq:ct e.fName with
       |true=>rfl
       |false=>exact absurd ⟨hv,hq⟩ c3
      rw[this];simp
    have h4':(decide (e.fName=[])&& !ay s.fDefs e.fTag)=false:=by
     by_cases hv:e.fName=[]
     ·have:ay s.fDefs e.fTag=true:=by
       cases hq:ay s.fDefs e.fTag with
       |true=>rfl
       |false=>exact absurd ⟨hv,hq⟩ c4
      rw[this];simp
     ·rw[Lj hv];rfl
    have h5':(!(decide (0<=e.fMin)&&decide (e.fMin<=e.fMax))|| !(decide (1<=e.fMax)&&decide (e.fMax<=1000)))=true:=by
     simp only[J_,KE,KJ,Kp];omega
    rw[q,show(decide (300<m+1)||decide (6<(deep:Int)))=false by simpa using c1,h2,h3,h4',h5'];rfl
   ·have h2:(!jR e&& !na e)=false:=by
     cases hv:jR e with
     |true=>rfl
     |false=>rw[hv] at c2;simp only[Kj] at c2;rw[c2];rfl
    have h3:(!decide (e.fName=[])&& !ct e.fName)=false:=by
     by_cases hv:e.fName=[]
     ·rw[Lb hv];rfl
     ·have:ct e.fName=true:=by
       cases hq:ct e.fName with
       |true=>rfl
       |false=>exact absurd ⟨hv,hq⟩ c3
      rw[this];simp
    have h4':(decide (e.fName=[])&& !ay s.fDefs e.fTag)=false:=by
     by_cases hv:e.fName=[]
     ·have:ay s.fDefs e.fTag=true:=by
       cases hq:ay s.fDefs e.fTag with
       |true=>rfl
       |false=>exact absurd ⟨hv,hq⟩ c4
      rw[this];simp
     ·rw[Lj hv];rfl
    have h5':(!(decide (0<=e.fMin)&&decide (e.fMin<=e.fMax))|| !(decide (1<=e.fMax)&&decide (e.fMax<=1000)))=false:=by
     simp only[KR,Bool.not_eq_false',JO,JS];omega
    rw[q,show(decide (300<m+1)||decide (6<(deep:Int)))=false by simpa using c1,h2,h3,h4',h5']
    simp only[J4]
    by_cases hv:e.fName=[]
    ·rw[Lb hv,Ll hv];rfl
    ·rw[Lj hv,if_neg hv,eJ ((deep:Int)+1) oM oM]
     have hrec:=Dl s hs k (deep+1) e.fItems (m+1) fu oM oM oM oM oM hb.items
     rw[show((deep+1:Nat):Int)=(deep:Int)+1 by omega] at hrec
     simp only[J4]
     rw[hrec]
     simp only[JP]
     by_cases hz:(o6 (ay s.fDefs) k e.fItems ((deep:Int)+1) (m+1)).1=0
     ·rw[Ll hz,Lb hz];rfl
     ·rw[if_neg hz,Lj hz];rfl
  ·by_cases hf:(qI (ay s.fDefs) (fun it m=>o6 (ay s.fDefs) k it ((deep:Int)+1) m) deep m e).1=0
   ·rw[Ll hf] at hg
    cases hg
    have:=hfb m e hm.1 hf
    exact⟨by omega,this.2⟩
   ·rw[if_neg hf] at hg;cases hg
  ·simp only[ak,J4];rfl
  ·rw[BG (R:=Int×Int) (ret:=fun r=>(r.2,r.1))]
   by_cases hf:(iK (qI (ay s.fDefs) (fun it m=>o6 (ay s.fDefs) k it ((deep:Int)+1) m) deep) l many).1=0
   ·rw[Ll hf]
    show some (_,0)=_
    rw[hf]
   ·rw[if_neg hf];rfl
theorem BI {α β:Type} (g:α->List β) (l:List α) (i:Nat):((l.take i).flatMap g).length<=(l.flatMap g).length:=by
 conv=>rhs;rw[<-KB i l]
 rw[La,JR];omega
theorem G5 {l:List Sl} {k:Nat} {x:Sl} (hx:x∈l) (hn:x.fName≠[]):k8 k x.fItems<=k8 (k+1) l:=by
 unfold k8
 induction l with
 |nil=>cases hx
 |cons y l ih=>
  simp only[JZ,List.sum_cons]
  rcases J2.1 hx with rfl|hx
  ·rw[if_neg hn]
   cases k with
   |zero=>simp[k8]
   |succ k=>show k8 (k+1) x.fItems<=_;omega
  ·have:=ih hx
   cases k with
   |zero=>simp[k8]
   |succ k=>show k8 (k+1) x.fItems<=_;have h2:k8 (k+1) x.fItems<=_:=this;omega
theorem Dm {D:List UInt8->Bool}:∀ (k:Nat) (l:List Sl) (fu:Nat),Au D k l->k8 k l<=300->k<=fu->dN fu l=some (sC k l)
 |0,_,_,h,_,_=>h.elim
 |k+1,l,0,_,_,h=>by omega
 |k+1,l,fu+1,h,hc,hf=>by
  rw[mz];unfold rz;dsimp only;simp only[my]
  have hlen:=CI (k+1) l
  have h50:=h.len
  refine b0 (Bz l (fun i p=>(p.flatMap (wG (sC k)),(i:Int))) (a:= .inl ((sC (k+1) l),(l.length:Int))) (fun i e he=> ?_) ?_) rfl
  ·have hi:=b8 he
   have hm:=JU he
   simp only[bl hi,J1,aB,he,JP,bY i oM]
   have hs:(l.take i++[e]).flatMap (wG (sC k))=(l.take i).flatMap (wG (sC k))++wG (sC k) e:=by rw[La];simp
   have hl1:=BI (wG (sC k)) l (i+1)
   rw[cQ he,hs,JR] at hl1
   have hl2:(l.flatMap (wG (sC k))).length<=300:=KF hlen hc
   rw[hs]
   unfold wG at hl1⊢
   by_cases hn:e.fName=[]
   ·rw[Lb hn,Ll hn];simp
   ·rw[if_neg hn] at hl1⊢
    rw[Lj hn,Dm k e.fItems fu ((h.it hm).2 hn) (KF (G5 hm hn) hc) oM]
    simp only[JT] at hl1
    simp only[Kt,J1,JP]
    rw[kR (by simp only[K6];unfold wG at hl2;omega),kR (by simp only[JR,K6];unfold wG at hl2;omega)]
    simp
  ·simp only[ak,J4];rfl
theorem Dn (l:List (List UInt8)) (hl:l.length<=1000):fK l=some (md [] l):=by
 unfold fK eQ;dsimp only
 refine kS (X:=Nat) (fun i=>(i:Int)) (fun i=>l.length - i) (fun i=>i<=l.length/\md [] l=md (l.take i) (l.drop i)) ?_ 0 ⟨Kf _,rfl⟩
 rintro i ⟨h1,h2⟩
 rcases J9 i l.length with hi|hi
 ·obtain⟨e,he⟩:=dI hi
  rw[nc he] at h2
  simp only[md] at h2
  have inner:=kS (X:=Nat) (R:=Int⊕(Int⊕Bool)) (f:=fun s_1:Int=>bif decide (s_1<(i:Int)) then(cx l (i:Int)).bind fun e=>(cx l s_1).bind fun e_1=>bif decide (e=e_1) then dg (dg (dg (dg (some true)))) else some (Sum.inl (IntKind.i64.wrap (s_1+1))) else dg (some (Sum.inl s_1)))
   (k:=eh fun _=>some (Sum.inl (IntKind.i64.wrap ((i:Int)+1)))) (c:=if(l.take i).contains e=true then some (.inr (.inr true)) else some (.inl ((i+1:Nat):Int))) (fun j=>(j:Int)) (fun j=>i - j) (fun j=>j<=i/\(l.take j).contains e=false) (by
    rintro j ⟨k1,k2⟩
    rcases J9 j i with hj|hj
    ·obtain⟨q,hq⟩:=dI (l:=l) (i:=j) oM
     simp only[bl hj,J1,aB,he,hq,JP,bY j oM]
     by_cases hqe:e=q
     ·subst hqe
      refine .inr ⟨_,by rw[Lb rfl];rfl, ?_⟩
      have:(l.take i).contains e=true:=by
       simp only[List.contains_iff_mem]
       exact JU (by rw[List.getElem?_take_of_lt hj];exact hq)
      rw[this];rfl
     ·refine .inl ⟨j+1,⟨hj, ?_⟩,by omega,by rw[Lj hqe];rfl⟩
      rw[cQ hq]
      simp only[Ln,Kc,K1,Kp,not_or] at k2⊢
      exact⟨k2,hqe⟩
    ·have hl':j=i:=by omega
     subst hl'
     refine .inr ⟨_,by simp only[ak,J4];rfl, ?_⟩
     rw[k2,bY j oM];rfl) 0 ⟨Kf _,by simp⟩
  simp only[bl hi,J1]
  rw[show((0:Nat):Int)=0 from rfl] at inner
  rw[inner]
  cases hc:(l.take i).contains e with
  |true=>rw[hc] at h2;exact .inr ⟨_,by rw[Ll rfl],by rw[h2];rfl⟩
  |false=>
   rw[hc,Kj,<-cQ he] at h2
   exact .inl ⟨i+1,⟨hi,h2⟩,by omega,by rw[if_neg oS]⟩
 ·have hl':i=l.length:=by omega
  subst hl'
  rw[Le] at h2
  exact .inr ⟨_,by simp only[ak,J4];rfl,by rw[h2];rfl⟩
theorem Do {D:List UInt8->Bool}:∀ (k:Nat) (l:List Sl) (b:List (List UInt8)) (g:Bool) (fu:Nat),Au D k l->b.length+50 * k<=400->k<=fu->b9 fu l b g=some (zn k l (fun t=>b.contains t) g)
 |0,_,_,_,_,h,_,_=>h.elim
 |k+1,l,b,g,0,_,_,h=>by omega
 |k+1,l,b,g,fu+1,h,hb,hf=>by
  rw[lB];unfold rC;dsimp only;simp only[lA]
  have h50:=h.len
  have hb4:b.length<=400:=by omega
  have hit:∀ (i:Nat) (e:Sl) (p:List Sl),l[i]?=some e->p.length<=50->(cR (fun s:Int=>bif decide (s<(b.length:Int)) then(cx b s).bind fun e_1=>bif decide (e_1=cH e) then dg (dg (dg (dg (some true)))) else some (Sum.inl (IntKind.i64.wrap (s+1))) else dg (some (Sum.inl s))) 0).bind (eh fun _=>some (Sum.inl (p.map cH++[cH e],((i+1:Nat):Int))))=
    (if b.contains (cH e)=true then some (.inr (.inr true)) else some (.inl (p.map cH++[cH e],((i+1:Nat):Int))):Option ((List (List UInt8)×Int)⊕((List (List UInt8)×Int)⊕Bool))):=by
   intro i e p he hp
   refine kS (X:=Nat) (fun j=>(j:Int)) (fun j=>b.length - j) (fun j=>j<=b.length/\(b.take j).contains (cH e)=false) ?_ 0 ⟨Kf _,by simp⟩
   rintro j ⟨k1,k2⟩
   rcases J9 j b.length with hj|hj
   ·obtain⟨q,hq⟩:=dI hj
    simp only[bl hj,J1,aB,hq,JP,bY j oM]
    by_cases hqe:q=cH e
    ·refine .inr ⟨_,by rw[Lb hqe];rfl, ?_⟩
     have:b.contains (cH e)=true:=by
      simp only[List.contains_iff_mem]
      rw[<-hqe];exact JU hq
     rw[this];rfl
    ·refine .inl ⟨j+1,⟨hj, ?_⟩,by omega,by rw[Lj hqe];rfl⟩
     rw[cQ hq]
     simp only[Ln,Kc,K1,Kp,not_or] at k2⊢
     exact⟨k2,fun h=>hqe h.symm⟩
   ·have hl':j=b.length:=by omega
    subst hl'
    rw[Kx] at k2
    refine .inr ⟨_,by simp only[ak,J4];rfl, ?_⟩
    rw[k2];rfl
  have hlast:∀ T,T=l.map cH->(cR (fun s_1:Int=>bif decide (s_1<(l.length:Int)) then(cx l s_1).bind fun e=>bif decide (e.fName=[]) then some (Sum.inl (IntKind.i64.wrap (s_1+1))) else jg (qx b.length) ((dy T ((some s_1).getD 0) ((none:Option Int).getD ((T.length:Nat):Int))).bind fun e=>jg (qx (b.length+e.length)) ((cx l s_1).bind fun e_1=>(b9 fu e_1.fItems (b++e) true).bind fun x=>bif x then dg (dg (some true)) else some (Sum.inl (IntKind.i64.wrap (s_1+1))))) else dg (some (Sum.inl s_1))) 0).bind (eh fun _=>some false)=some (Ga (fun it S'=>zn k it S' true) (fun t=>b.contains t) l):=by
   rintro T rfl
   refine kS (X:=Nat) (fun i=>(i:Int)) (fun i=>l.length - i) (fun i=>i<=l.length/\Ga (fun it S'=>zn k it S' true) (fun t=>b.contains t) l=Ga (fun it S'=>zn k it S' true) (fun t=>b.contains t) (l.drop i)) ?_ 0 ⟨Kf _,rfl⟩
   rintro i ⟨k1,k2⟩
   rcases J9 i l.length with hi|hi
   ·obtain⟨e,he⟩:=dI hi
    have hm:=JU he
    have hdr:=nc he
    rw[hdr] at k2
    simp only[Ga] at k2
    simp only[bl hi,J1,aB,he,JP,bY i oM]
    by_cases hn:e.fName=[]
    ·rw[Lb hn] at k2⊢
     exact .inl ⟨i+1,⟨hi,by simpa using k2⟩,by omega,rfl⟩
    ·rw[Lj hn] at k2⊢
     have hsl:dy (l.map cH) ((some (i:Int)).getD 0) ((none:Option Int).getD (((l.map cH).length:Nat):Int))=some ((l.drop i).map cH):=by
      simp only[KS,Kr,dy]
      rw[Ll ⟨by omega,by simp;omega,KL _⟩]
      rw[K9 (List.map cH l).length,Ki (JW _)]
      simp
     have hlen:((l.drop i).map cH).length<=50:=by simp;omega
     have hrec:=Do k e.fItems (b++(l.drop i).map cH) true fu ((h.it hm).2 hn) (by rw[JR];omega) oM
     simp only[J4]
     rw[kR oM,hsl]
     simp only[JP]
     rw[kR oM,hrec]
     simp only[JP]
     have hS:(fun t=>(b++(l.drop i).map cH).contains t)=fun t=>b.contains t||((e::l.drop (i+1)).map cH).contains t:=by
      funext t
      rw[<-hdr,J8]
      simp only[List.contains_iff_mem,Kc,J_]
     rw[hS]
     simp only[Kt,J6] at k2
     cases hc:zn k e.fItems (fun t=>b.contains t||((e::l.drop (i+1)).map cH).contains t) true with
     |true=>rw[hc] at k2;exact .inr ⟨_,rfl,by rw[k2];rfl⟩
     |false=>rw[hc] at k2;exact .inl ⟨i+1,⟨hi,by simpa using k2⟩,by omega,rfl⟩
   ·have hl':i=l.length:=by omega
    subst hl'
    rw[Le] at k2
    exact .inr ⟨_,by simp only[ak,J4];rfl,by rw[k2];rfl⟩
  refine kS (X:=Nat) (fun i=>((l.take i).map cH,(i:Int))) (fun i=>l.length - i) (fun i=>i<=l.length/\yf (fun t=>b.contains t) g 0 (l.map cH)=yf (fun t=>b.contains t) g i ((l.drop i).map cH)) ?_ 0 ⟨Kf _,rfl⟩
  rintro i ⟨k1,k2⟩
  rcases J9 i l.length with hi|hi
  ·obtain⟨e,he⟩:=dI hi
   have hpl:(l.take i).length<=50:=by rw[Ko];omega
   rw[nc he] at k2
   simp only[JZ,yf] at k2
   simp only[bl hi,J1,aB,he,JP,bY i oM,fh,Ih]
   rw[kR (by simp only[KC,K6];omega)]
   simp only[aW,JP]
   have hd0:decide ((i:Int)=0)=decide (i=0):=by congr 1;apply propext;omega
   rw[hd0]
   have hsn:(l.take (i+1)).map cH=(l.take i).map cH++[cH e]:=by rw[cQ he];simp
   cases hg:(g&&decide (i=0)) with
   |true=>
    rw[hg] at k2
    exact .inl ⟨i+1,⟨hi,by simpa using k2⟩,by omega,by rw[hsn];rfl⟩
   |false=>
    rw[hg] at k2
    simp only[J4]
    rw[hit i e (l.take i) he hpl]
    cases hc:b.contains (cH e) with
    |true=>
     rw[hc] at k2
     refine .inr ⟨_,by rw[Ll rfl], ?_⟩
     unfold zn
     rw[k2];rfl
    |false=>
     rw[hc] at k2
     exact .inl ⟨i+1,⟨hi,by simpa using k2⟩,by omega,by rw[if_neg oS,hsn]⟩
  ·have hl':i=l.length:=by omega
   subst hl'
   rw[Le] at k2
   rw[Kx]
   refine .inr ⟨_,by simp only[ak,J4];rfl, ?_⟩
   simp only[eh]
   rw[Dn _ oT]
   unfold zn
   rw[k2]
   simp only[JP,KX,yf,Kj]
   cases hd:md [] (l.map cH) with
   |true=>rfl
   |false=>
    simp only[J4,Kj]
    exact hlast _ rfl
def Ew (s:ah):Int:=
 if ct s.fKind=false\/ct s.fVersion=false then 5
 else if n5 s.fDefs≠0 then n5 s.fDefs
 else if(o6 (ay s.fDefs) 8 s.fItems 0 0).1≠0 then(o6 (ay s.fDefs) 8 s.fItems 0 0).1
 else if md [] (sC 8 s.fItems)=true then 7
 else if zn 8 s.fItems (fun _=>false) false=true then 12
 else 0
structure I6 (s:ah):Prop where
 kind:s.fKind.length<=MX
 version:s.fVersion.length<=MX
 tags:∀ d∈s.fDefs,d.fTag.length<=MX
 items:∀ x∈s.fItems,At x
theorem yg {l:List Df} (h:n5 l=0):l.length<=100:=by
 unfold n5 at h
 split at h
 ·cases h
 ·omega
theorem tc (s:ah) (h:I6 s):dF s=some (Ew s):=by
 have hFU:=Ab
 unfold dF rG;dsimp only
 rw[CD _ h.kind,CD _ h.version,Il _ h.tags]
 simp only[JP,bG]
 unfold Ew
 by_cases c1:ct s.fKind=false\/ct s.fVersion=false
 ·rw[Ll c1,show(!ct s.fKind|| !ct s.fVersion)=true by simpa using c1];rfl
 rw[if_neg c1,show(!ct s.fKind|| !ct s.fVersion)=false by simpa using c1]
 simp only[J4]
 by_cases c2:n5 s.fDefs=0
 ·rw[if_neg (not_not_intro c2),Lb c2]
  have hdl:=yg c2
  have hit:=Dl s oM 8 0 s.fItems 0 FU oM oM oM oM oM h.items
  rw[show((0:Nat):Int)=0 from rfl] at hit
  rw[hit]
  simp only[J3,J4,JP]
  by_cases c3:(o6 (ay s.fDefs) 8 s.fItems 0 0).1=0
  ·rw[if_neg (not_not_intro c3),Lb c3]
   obtain⟨k1,k2⟩:=uK _ 8 s.fItems 0 0 c3
   have k3:=(se _ 8 (l:=s.fItems) (deep:=0) (many:=0) oM oM c3).2
   have hcnt:k8 8 s.fItems<=300:=by omega
   have hnl:=CI 8 s.fItems
   rw[Dm 8 s.fItems FU k1 hcnt oM]
   simp only[J3,J4,JP]
   rw[Dn _ oM,Do 8 s.fItems [] false FU k1 oS oM]
   simp only[JP]
   have hS:(fun t=>([]:List (List UInt8)).contains t)=fun _=>false:=by funext t;simp
   rw[hS]
   cases md [] (sC 8 s.fItems) with
   |true=>rfl
   |false=>
    cases zn 8 s.fItems (fun _=>false) false<;>rfl
  ·rw[Ll c3,Lj c3];rfl
 ·rw[Ll c2,Lj c2];rfl
theorem CJ (s:List UInt8) (k:Int) (h0:s≠[]) (hs:s.length<=20):kF s k=some (Ai k s):=by
 unfold kF eP;dsimp only
 unfold Ai
 by_cases k2:k=2
 ·subst k2
  rw[show decide ((2:Int)=2)=true from rfl]
  simp only[J1]
  refine(pL s iJ false (fun i e he=> ?_) ?_).trans ?_
  ·have hi:=b8 he
   have a2:((decide ((e.toNat:Int)<65)||decide (90<(e.toNat:Int)))&&(decide ((e.toNat:Int)<97)||decide (122<(e.toNat:Int)))&& !decide ((e.toNat:Int)=32))= !iJ e:=by
    unfold iJ;rw[J8];simp;omega
   simp only[bl hi,J1,aB,he,JP,bG,aW,bY i oM,a2]
   cases iJ e<;>rfl
  ·simp only[ak,J4];rfl
  ·cases s.all iJ<;>rfl
 rw[Lj k2]
 by_cases k3:k=3
 ·subst k3
  rw[tR s oM,gb h0]
  simp
 rw[Lj k3]
 by_cases k4:k=4
 ·subst k4
  obtain⟨d,e,h1,h2⟩:=BR s oM
  rw[h1];simp[h2]
 rw[Lj k4]
 by_cases k5:k=5
 ·subst k5
  obtain⟨d,e,h1,h2⟩:=DB s oM
  rw[h1];simp[h2]
 rw[Lj k5]
 simp[k2,k3,k4,k5]
theorem G6 (d:aH):i_ d=some (if 50<d.fCodes.length then 2 else mc (qe d) none d.fCodes):=by
 unfold i_ j0;dsimp only
 by_cases c4:50<d.fCodes.length
 ·rw[Ll c4,show decide (50<((d.fCodes.length:Nat):Int))=true by simp;omega];rfl
 ·rw[if_neg c4,show decide (50<((d.fCodes.length:Nat):Int))=false by simp;omega]
  simp only[J4]
  refine(iI d.fCodes (qe d) (fun n=>n) (fun i e he=> ?_) ?_).trans ?_
  ·have hi:=b8 he
   have hp:=BE he oM
   simp only[bl hi,J1]
   rw[show cx d.fCodes (i:Int)=some e by rw[aB];exact he]
   simp only[JP]
   rw[hp]
   simp only[JP,wW,bG,bY i oM]
   unfold qe Di
   by_cases c1:1<=e.length/\e.length<=20
   ·have b1:(decide (((e.length:Nat):Int)<1)||decide (20<((e.length:Nat):Int)))=false:=by simp;omega
    have hne:e≠[]:=fun h=>by rw[h] at c1;simp at c1
    rw[b1,CL e _ _ oM,CJ e d.fType hne c1.2,Lb c1]
    have hrg:e.all (sk (UInt8.ofNat (Int.toNat 33)) (UInt8.ofNat (Int.toNat 126)))=e.all (sk 33 126):=rfl
    rw[hrg]
    simp only[z8,J4,JP,J6]
    cases ha:e.all (sk 33 126) with
    |false=>simp only[Kt,Bool.and_false];rfl
    |true=>
     simp only[J3,LA]
     by_cases c2:d.fMin<=(e.length:Int)/\(e.length:Int)<=d.fMax
     ·have b2:(decide (((e.length:Nat):Int)<d.fMin)||decide (d.fMax<((e.length:Nat):Int)))=false:=by simp;omega
      rw[b2,Lb c2]
      simp only[J6]
      cases Ai d.fType e with
      |false=>rfl
      |true=>
       simp only[J3,K4]
       cases ye (lg d.fCodes i) e<;>rfl
     ·have b2:(decide (((e.length:Nat):Int)<d.fMin)||decide (d.fMax<((e.length:Nat):Int)))=true:=by
       simp only[J_,JS];omega
      rw[b2,Lj c2];rfl
   ·have b1:(decide (((e.length:Nat):Int)<1)||decide (20<((e.length:Nat):Int)))=true:=by
     simp only[J_,JS];omega
    rw[b1,Lj c1];rfl
  ·simp only[ak,J4];rfl
  ·split
   ·rename_i h;rw[h]
   ·rfl
theorem Io (d:aH):jI d=some (sd d):=by
 unfold jI rt;dsimp only
 simp only[wW,JP,bG,aW,G6]
 unfold sd
 by_cases c1:1<=d.fType/\d.fType<=5
 ·rw[show(decide (d.fType<1)||decide (5<d.fType))=false by simp;omega,if_neg (not_not_intro c1)]
  simp only[J4]
  by_cases c2:¬ (1<=d.fMin/\d.fMin<=d.fMax)\/1000<d.fMax
  ·rw[Ll c2,show(decide (d.fMin<1)||decide (d.fMax<d.fMin)||decide (1000<d.fMax))=true by simp only[J_,JS];omega];rfl
  ·rw[if_neg c2,show(decide (d.fMin<1)||decide (d.fMax<d.fMin)||decide (1000<d.fMax))=false by simp only[KR,Kp];omega]
   simp only[J4]
   by_cases c3:d.fType=5/\(8<d.fMin\/d.fMax<8)
   ·rw[Ll c3,show(decide (d.fType=5)&&(decide ((8:Int)<d.fMin)||decide (d.fMax<8)))=true by simp[c3.1];exact c3.2];rfl
   ·rw[if_neg c3,show(decide (d.fType=5)&&(decide ((8:Int)<d.fMin)||decide (d.fMax<8)))=false by simp only[KJ,Kp,KR];omega]
    rfl
 ·rw[show(decide (d.fType<1)||decide (5<d.fType))=true by simp only[J_,JS];omega,Ll c1];rfl
theorem Ip (e:aY):gH e=some (uJ e):=by
 unfold gH ru;dsimp only
 simp only[wW,JP,Ei]
 unfold uJ
 by_cases d1:1<=e.fMost/\e.fMost<=20
 ·rw[show(decide (e.fMost<1)||decide (20<e.fMost))=false by simp;omega]
  simp only[J4,d1,and_self,not_true_eq_false,KG]
  by_cases d2:e.fParts=[]
  ·simp only[d2,K4];rfl
  ·simp only[d2,KG,Lh,J4]
   by_cases d3:20<e.fParts.length
   ·simp only[d3,K4]
    rw[show decide (20<((e.fParts.length:Nat):Int))=true by simp;omega];rfl
   ·simp only[d3,KG]
    rw[show decide (20<((e.fParts.length:Nat):Int))=false by simp;omega]
    simp only[J4]
    refine(iI e.fParts (fun _ p=>sd p) (fun n=>n) (fun i e he=> ?_) ?_).trans ?_
    ·have hi':=b8 he
     simp only[bl hi',J1,aB,he,JP,Io,bY i oM]
     by_cases hz:sd e=0
     ·simp only[hz,K4,Lo,J3,J4]
     ·simp only[hz,KG,Lh,Kt,J1];rfl
    ·simp only[ak,J4];rfl
    ·split
     ·rename_i h;rw[h]
     ·rfl
 ·rw[show(decide (e.fMost<1)||decide (20<e.fMost))=true by simp only[J_,JS];omega]
  simp only[d1,not_false_eq_true,K4];rfl
theorem En {l:List Df} {i:Nat} {e:Df} (he:l[i]?=some e) (hl:l.length<=1000):
  mU (decide (0<(i:Int))) ((cx l (IntKind.i64.wrap ((i:Int) - 1))).bind fun e_1=>some (Op.bytesLess e.fTag e_1.fTag||decide (e.fTag=e_1.fTag)))=some (ye ((lg l i).map (·.fTag)) e.fTag):=by
 have:=zm he hl
 rw[aB,he] at this
 exact this
theorem Iq (l:List Df) (hl:∀ d∈l,d.fTag.length<=MX):jJ l=some (n5 l):=by
 unfold jJ rx;dsimp only
 unfold n5
 by_cases c4:100<l.length
 ·rw[Ll c4,show decide (100<((l.length:Nat):Int))=true by simp;omega];rfl
 ·rw[if_neg c4,show decide (100<((l.length:Nat):Int))=false by simp;omega]
  simp only[J4]
  refine(iI l wn (fun n=>n) (fun i e he=> ?_) ?_).trans ?_
  ·have hi':=b8 he
   have hm:=JU he
   have hp:=En he oM
   simp only[bl hi',J1,aB l,he,JP,FN _ (hl e hm),bY i oM]
   rw[hp]
   unfold wn
   cases vE e.fTag with
   |false=>rfl
   |true=>
    simp only[J3,J4,Lf,KG,JP]
    cases ye ((lg l i).map (·.fTag)) e.fTag with
    |true=>rfl
    |false=>
     simp only[J4,Kg,KG]
     unfold Em
     by_cases c5:50<e.fElements.length
     ·rw[Ll c5,show decide (50<((e.fElements.length:Nat):Int))=true by simp;omega];rfl
     ·rw[if_neg c5,show decide (50<((e.fElements.length:Nat):Int))=false by simp;omega]
      simp only[J4]
      refine(iI e.fElements (fun _ e=>uJ e) (fun n=> .inr (.inr n)) (fun i e he=> ?_) ?_).trans ?_
      ·have hi':=b8 he
       simp only[bl hi',J1,aB,he,JP,Ip,bY i oM]
       by_cases hz:uJ e=0
       ·simp only[hz,K4,Lo,J3,J4]
       ·simp only[hz,KG,Lh,Kt,J1];rfl
      ·simp only[ak,J4];rfl
      ·rfl
  ·simp only[ak,J4];rfl
  ·split
   ·rename_i h;rw[h]
   ·rfl
theorem zo {α:Type} {st:Option α->α->Int}:∀ {l:List α} {p:Option α},mc st p l=0->∀ (i:Nat) (a b:α),l[i]?=some a->l[i+1]?=some b->st (some a) b=0
 |[],_,_,i,a,b,h,_=>by simp at h
 |x::l,p,h,i,a,b,ha,hb=>by
  unfold mc at h
  by_cases hs:st p x=0
  ·rw[Ll hs] at h
   cases i with
   |zero=>
    simp at ha hb
    subst ha
    cases l with
    |nil=>simp at hb
    |cons y l=>
     simp at hb;subst hb
     unfold mc at h
     by_cases h2:st (some x) y=0
     ·exact h2
     ·rw[if_neg h2] at h;exact absurd h h2
   |succ i=>exact zo h i a b (by simpa using ha) (by simpa using hb)
  ·rw[if_neg hs] at h;exact absurd h hs
theorem Eo {l:List Df} (h:n5 l=0):BB l:=by
 unfold n5 at h
 split at h
 ·cases h
 ·intro i a b ha hb
  simp only[Kh,Option.map_eq_some_iff] at ha hb
  obtain⟨x,hx,rfl⟩:=ha
  obtain⟨y,hy,rfl⟩:=hb
  have:=zo h i x y hx hy
  unfold wn at this
  split at this
  ·cases this
  ·split at this
   ·cases this
   ·rename_i _ hbad
    simp only[ye,Ku,JJ,J_,JS,not_or,Lc] at hbad
    rcases HH y.fTag x.fTag with h|h|h
    ·exact absurd h hbad.2
    ·rw[hbad.1] at h;cases h
    ·exact h
theorem JF {a b:Nat} (ha:a<=1000) (hb:b<=1000):IntKind.i64.wrap (IntKind.u64.wrap (IntKind.i64.wrap ((a:Int)+(b:Int)))/2)=(((a+b)/2:Nat):Int):=by
 rw[eJ ((a:Int)+(b:Int)) oM oM,Aq oM oM,eJ _ oM oM]
 omega
theorem FX (l:List Df) (t:List UInt8) (hr:BB l) (hl:l.length<=1000) (f2:FuncId) (c2:List DV) (h2:∀ a0 a1 r,dj a0 a1=some r->aa Tryz.prog f2 ([.agg (au a0),.str a1]++c2) (.int .i64 r)):
  ∃ n,ax l t f2 c2 dj h2=some (n,ay l t)/\(ay l t=true->∃ d,cx l n=some d):=by
 have hcmp:∀ e:Df,dj e t=some (Lib.compareBytes e.fTag t):=fun e=>by
  unfold dj eP;dsimp only
  rfl
 have hlt:∀ {i j:Nat} {a b:Df},i<j->l[i]?=some a->l[j]?=some b->Op.bytesLess a.fTag b.fTag=true:=fun{i j a b} hij ha hb=>by
  exact hr.lt hij (by rw[Kh,ha];rfl) (by rw[Kh,hb];rfl)
 unfold ax eP;dsimp only
 have key:=iG (X:=Nat×Nat) (R:=Int×Bool) (C:=fun c=>∃ n,c=(n,ay l t)/\(ay l t=true->∃ d,cx l n=some d))
  (f:=fun s:Int×Int=>bif decide (s.fst<s.snd) then jg (C2 IntKind.u64 1) ((cx l (IntKind.i64.wrap (IntKind.u64.wrap (IntKind.i64.wrap (s.fst+s.snd))/2))).bind fun e=>(dj e t).bind fun x=>bif decide (x<0) then some (Sum.inl (IntKind.i64.wrap (IntKind.i64.wrap (IntKind.u64.wrap (IntKind.i64.wrap (s.fst+s.snd))/2)+1),s.snd)) else some (Sum.inl (s.fst,IntKind.i64.wrap (IntKind.u64.wrap (IntKind.i64.wrap (s.fst+s.snd))/2)))) else dg (some (Sum.inl (s.fst,s.snd))))
  (k:=eh fun s:Int×Int=>(mU (decide (s.fst<(l.length:Int))) ((cx l s.fst).bind fun e=>(dj e t).bind fun x=>some (decide (x=0)))).bind fun v=>some (s.fst,v))
  (fun s=>((s.1:Int),(s.2:Int))) (fun s=>s.2 - s.1) (fun s=>s.1<=s.2/\s.2<=l.length/\(∀ i e,i<s.1->l[i]?=some e->Op.bytesLess e.fTag t=true)/\∀ i e,s.2<=i->l[i]?=some e->Op.bytesLess e.fTag t=false) (by
   rintro⟨a,b⟩ ⟨h1,h2,h3,h4⟩
   simp only at h1 h2 h3 h4⊢
   rcases J9 a b with hab|hab
   ·have hm:(a+b)/2<l.length:=by omega
    obtain⟨e,he⟩:=dI hm
    simp only[JF (a:=a) (b:=b) oM oM,aB,he,JP,hcmp,bl hab,J1,bY ((a+b)/2) oM]
    rw[cd (lS.2 ⟨by omega,by simp[IntKind.bits]⟩)]
    by_cases hc:Op.bytesLess e.fTag t=true
    ·rw[Lb (Hp.2 hc)]
     refine .inl ⟨((a+b)/2+1,b),⟨by omega,h2,fun i x hi hx=> ?_,h4⟩,by simp only;omega,rfl⟩
     rcases J9 i ((a+b)/2) with h|h
     ·exact qL (hlt h hx he) hc
     ·have:i=(a+b)/2:=by simp only at hi;omega
      subst this
      rw[he] at hx;simp only[JN] at hx;subst hx;exact hc
    ·rw[Lj (fun h=>hc (Hp.1 h))]
     refine .inl ⟨(a,(a+b)/2),⟨by omega,by omega,h3,fun i x hi hx=> ?_⟩,by simp only;omega,rfl⟩
     cases hv:Op.bytesLess x.fTag t with
     |false=>rfl
     |true=>
      exfalso
      simp only at hi
      rcases J9 ((a+b)/2) i with h|h
      ·exact hc (qL (hlt h he hx) hv)
      ·have:i=(a+b)/2:=by omega
       subst this
       rw[he] at hx;simp only[JN] at hx;subst hx;exact hc hv
   ·have hab':a=b:=by omega
    subst hab'
    have hd:decide ((a:Int)<(a:Int))=false:=by simp
    refine .inr ⟨.inl ((a:Int),(a:Int)),((a:Int),ay l t),by rw[hd];rfl, ?_,(a:Int),rfl, ?_⟩
    ·simp only[eh]
     rcases J9 a l.length with ha|ha
     ·obtain⟨e,he⟩:=dI ha
      simp only[bl ha,mU,J1,aB,he,JP,hcmp]
      have:decide (Lib.compareBytes e.fTag t=0)=ay l t:=by
       rw[J8,JS,II]
       unfold ay
       rw[Ld]
       constructor
       ·intro h;exact⟨e,JU he,by simpa using h⟩
       ·rintro⟨x,hx,hxt⟩
        simp only[JS] at hxt
        obtain⟨j,hj⟩:=List.getElem?_of_mem hx
        rcases Nat.lt_trichotomy j a with h|h|h
        ·have:=h3 j x h hj
         rw[hxt,jT] at this;cases this
        ·subst h;rw[he] at hj;simp only[JN] at hj;rw[hj];exact hxt
        ·have:=hlt h he hj
         rw[hxt] at this
         have k:=h4 a e (JW _) he
         rw[k] at this;cases this
      rw[this]
     ·have hd2:decide ((a:Int)<((l.length:Nat):Int))=false:=by simp;omega
      rw[hd2]
      have:ay l t=false:=by
       unfold ay
       rw[List.any_eq_false]
       intro x hx hxt
       simp only[JS] at hxt
       obtain⟨j,hj⟩:=List.getElem?_of_mem hx
       have:=h3 j x (by have:=b8 hj;omega) hj
       rw[hxt,jT] at this;cases this
      rw[this];rfl
    ·intro ht
     unfold ay at ht
     rw[Ld] at ht
     obtain⟨x,hx,hxt⟩:=ht
     simp only[JS] at hxt
     obtain⟨j,hj⟩:=List.getElem?_of_mem hx
     have hja:a<=j:=by
      rcases J9 j a with h|h
      ·have:=h3 j x h hj
       rw[hxt,jT] at this;cases this
      ·exact h
     obtain⟨d,hd'⟩:=dI (l:=l) (i:=a) (by have:=b8 hj;omega)
     exact⟨d,by rw[aB];exact hd'⟩) (0,l.length) ⟨Kf _,JW _,fun i e hi=>by simp at hi,fun i e hi he=>by
      have:=b8 he;simp only at hi;omega⟩
 obtain⟨c,hc,n,rfl,hn⟩:=key
 exact⟨n,hc,hn⟩
theorem G7 (s:ah) (t:List UInt8) (hr:BB s.fDefs) (hl:s.fDefs.length<=1000):∃ d,nL s t=some (d,ay s.fDefs t):=by
 unfold nL j0;dsimp only
 obtain⟨n,hn,hd⟩:=FX s.fDefs t hr hl 89 [] (by first|exact(fun a0 a1 r h=>i7 a0 a1 r h)|exact(fun a0 a1 r h=>by simpa using i7 a0 a1 r h))
 rw[hn]
 simp only[JP]
 cases hv:ay s.fDefs t with
 |false=>exact⟨_,rfl⟩
 |true=>
  obtain⟨d,hd⟩:=hd hv
  exact⟨d,by rw[hd];rfl⟩
end Go.Proofs.YtgocgdgknpdknaaGreatDoor
