/-
  Laws on the way to the theorem.
-/
import Derived.Test.YteaolfcegaidpaaGreatDoorBX5
namespace Go.Proofs.YteaolfcegaidpaaGreatDoor
open Go.RowKit
set_option linter.unusedSimpArgs false
set_option linter.unusedVariables false
def uG (lo hi c:UInt8):Bool:=decide (lo.toNat<=c.toNat)&&decide (c.toNat<=hi.toNat)
theorem E1 (l:List UInt8) (lo hi:UInt8) (hl:l.length<=1000000):q8 l lo hi=some (l.all (uG lo hi)):=by
 unfold q8 a_;dsimp only
 refine(nL l (uG lo hi) false (fun i e he=> ?_) ?_).trans ?_
 ·have hi':=bD he
  have h1:(decide ((e.toNat:Int)<(lo.toNat:Int))||decide ((hi.toNat:Int)<(e.toNat:Int)))= !uG lo hi e:=by
   unfold uG;rw[Mp];simp
  simp only[bp hi',Mf,aw,he,L8,bz,bN i oM,h1]
  cases uG lo hi e<;>rfl
 ·simp only[an,Mg];rfl
 ·cases l.all (uG lo hi)<;>rfl
def gy (c:UInt8):Bool:=decide (48<=c.toNat)&&decide (c.toNat<=57)
def nQ (l:List UInt8):Bool:= !decide (l=[])&&l.all gy
theorem lL {l:List UInt8} (h:nQ l=true):sr l:=fun c hc=>by
 simp only[nQ,L9,MD] at h
 have:=h.2 c hc
 simpa[gy] using this
theorem y9 {l:List UInt8} (h:nQ l=true):l≠[]:=by
 intro e;subst e;simp[nQ] at h
theorem wj (l:List UInt8) (hl:l.length<=1000000):mA l=some (nQ l):=by
 unfold mA lU;dsimp only
 rw[E1 l _ _ hl]
 simp only[L8,aO]
 rfl
theorem y_ (l:List UInt8) (hl:l.length<=1000000):fH l=some (nQ l):=by
 unfold fH lW;dsimp only
 unfold nQ
 cases hd:decide (l=[]) with
 |true=>rfl
 |false=>
  simp only[Mg,Mo,Mj]
  refine(nL l gy false (fun i e he=> ?_) ?_).trans ?_
  ·have hi':=bD he
   have h1:(decide ((e.toNat:Int)<48)||decide (57<(e.toNat:Int)))= !gy e:=by
    unfold gy;rw[Mp];simp
    omega
   simp only[bp hi',Mf,aw,he,L8,bz,bN i oM,h1]
   cases gy e<;>rfl
  ·simp only[an,Mg];rfl
  ·cases l.all gy<;>rfl
def JF:List UInt8->Int
 |[]=>0
 |c::_=>c.toNat
def xk (l:List UInt8):Bool:=nQ l&&(decide ((l.length:Int)=1)|| !decide (JF l=48))
theorem A4 {l:List UInt8} (h:l≠[]):∃ c,b_ l 0=some c/\JF l=(c.toNat:Int):=by
 cases l with
 |nil=>exact absurd rfl h
 |cons c l=>exact⟨c,rfl,rfl⟩
theorem FR (l:List UInt8) (hl:l.length<=1000000):nw l=some (xk l):=by
 unfold nw lV;dsimp only
 rw[wj l hl]
 unfold xk
 cases hd:nQ l with
 |false=>rfl
 |true=>
  obtain⟨c,hc,hh⟩:=A4 (y9 hd)
  simp only[L8,hc,bz,hh,aO,Mj]
theorem w8 {e:UInt8} (h:48<=e.toNat/\e.toNat<=57):IntKind.u8.wrap ((e.toNat:Int) - 48)=(e.toNat:Int) - 48:=by
 have:IntKind.u8.wrap ((e.toNat:Int) - 48)=((e.toNat:Int) - 48)%256:=by simp[IntKind.wrap,IntKind.bits,IntKind.signed]
 rw[this];omega
theorem A5 (l:List UInt8) (c:UInt8):ca 0 (l++[c])=10 * ca 0 l+((c.toNat:Int) - 48):=by rw[AA];rfl
theorem sr.take {l:List UInt8} (h:sr l) (n:Nat):sr (l.take n):=fun c hc=>h c (MC hc)
theorem FS {l:List UInt8} (h:sr l) (n:Nat):ca 0 (l.take n)<=ca 0 l:=by
 have h1:=y7 (l:=l.drop n) (n:=ca 0 (l.take n)) (fun c hc=>h c (MU hc)) (y8 (h.take n) (Na _))
 rw[<-AA,MM] at h1
 exact h1
theorem za (l:List UInt8) (h:sr l) (hl:l.length<=1000):∃ r,dE l=some (r,decide (ca 0 l<=1000000000000000))/\(ca 0 l<=1000000000000000->r=ca 0 l):=by
 unfold dE lW;dsimp only
 have key:∃ c:Int×Bool,_=some c/\∃ r,c=(r,decide (ca 0 l<=1000000000000000))/\(ca 0 l<=1000000000000000->r=ca 0 l):=ld (X:=Nat) (R:=Int×Bool) (C:=fun c=>∃ r,c=(r,decide (ca 0 l<=1000000000000000))/\(ca 0 l<=1000000000000000->r=ca 0 l))
  (f:=fun s:Int×Int=>bif decide (s.snd<(l.length:Int)) then(b_ l s.snd).bind fun e=>bif decide (1000000000000000<IntKind.i64.wrap (IntKind.i64.wrap (10 * s.fst)+IntKind.i64.wrap (IntKind.u8.wrap ((e.toNat:Int) - 48)))) then dy (dy (some (0,false))) else some (Sum.inl (IntKind.i64.wrap (IntKind.i64.wrap (10 * s.fst)+IntKind.i64.wrap (IntKind.u8.wrap ((e.toNat:Int) - 48))),IntKind.i64.wrap (s.snd+1))) else dy (some (Sum.inl (s.fst,s.snd))))
  (k:=dg fun s:Int×Int=>some (s.fst,true))
  (fun i=>(ca 0 (l.take i),(i:Int))) (fun i=>l.length - i) (fun i=>i<=l.length/\ca 0 (l.take i)<=1000000000000000) (by
   rintro i ⟨h1,h2⟩
   have h0:=y8 (h.take i) (Na _)
   rcases Mr i l.length with hi|hi
   ·obtain⟨e,he⟩:=eb hi
    have ke:=h e (Mb he)
    have hs:ca 0 (l.take (i+1))=10 * ca 0 (l.take i)+((e.toNat:Int) - 48):=by rw[cP he,A5]
    simp only[bp hi,Mf,aw,he,L8,w8 ke,bN i oM]
    rw[ge (10 * ca 0 (l.take i)) oM oM,ge ((e.toNat:Int) - 48) oM oM,ge _ oM oM,<-hs]
    by_cases hc:1000000000000000<ca 0 (l.take (i+1))
    ·have:=FS h (i+1)
     refine .inr ⟨_,_,by rw[M9 hc];rfl,rfl,0, ?_,fun hh=>by omega⟩
     rw[Ni oM]
    ·exact .inl ⟨i+1,⟨hi,by omega⟩,by omega,by rw[Ni hc];rfl⟩
   ·have hl':i=l.length:=by omega
    subst hl'
    rw[MQ] at h2⊢
    refine .inr ⟨_,_,by simp only[an,Mg];rfl,rfl,ca 0 l, ?_,fun _=>rfl⟩
    rw[M9 h2]) 0 ⟨ME _,by simp[ca]⟩
 obtain⟨c,hc,r,rfl,hr⟩:=key
 exact⟨r,hc,hr⟩
def Iz (neg:Bool) (v:Int):Bool:=(!neg||decide (v≠0))&&decide (v<=1000000000000000)
theorem GU (b:Bool) (l:List Int) (p:Int) (h:q_ l) (hz:IC l):∃ d e,dA ⟨b,l⟩ p=some (d,e)/\decide (e=0)=decide (bZ l<=1000000000000000):=by
 unfold dA lU;dsimp only
 obtain⟨r,hr⟩:=LG b l h hz 1000000000000000 oM oM
 rw[hr]
 cases decide (bZ l<=1000000000000000)<;>exact⟨_,_,rfl,rfl⟩
theorem pc {n:Nat} (h:n<=1000):Gw n=some ():=by unfold Gw;rw[NH oM]
theorem J0 (neg:Bool) (a b:List UInt8) (h:sr (a++b)) (hl:(a++b).length<=50):∃ d e,nO neg a b=some (d,e)/\decide (e=0)=Iz neg (ca 0 (a++b)):=by
 unfold nO lV;dsimp only
 obtain⟨x,hx,nx⟩:=KU 0 oM oM
 obtain⟨t,ht,nt⟩:=KU 10 oM oM
 have hlen:a.length+b.length<=1000:=by rw[Mh] at hl;omega
 simp only[hx,L8,bU (pc hlen),ht]
 generalize a++b=l at h hl
 have key:∃ c:b9×Int,_=some c/\decide (c.2=0)=Iz neg (ca 0 l):=ld (X:=ar×Nat) (R:=b9×Int) (C:=fun c=>decide (c.2=0)=Iz neg (ca 0 l))
  (f:=fun s:ar×Int=>bif decide (s.snd<(l.length:Int)) then(cN s.fst t).bind fun x=>(b_ l s.snd).bind fun e=>(rT (IntKind.i64.wrap (IntKind.u8.wrap ((e.toNat:Int) - 48)))).bind fun x_1=>(cY x x_1).bind fun x=>some (Sum.inl (x,IntKind.i64.wrap (s.snd+1))) else dy (some (Sum.inl (s.fst,s.snd))))
  (k:=dg fun s:ar×Int=>bif neg then(bP s.fst).bind fun x=>bif decide (x=0) then some ({fUnits:=0,fPlaces:=0},10) else(bJ s.fst).bind fun x=>(dA x (b.length:Int)).bind fun x=>some (x.fst,x.snd) else(dA s.fst (b.length:Int)).bind fun x=>some (x.fst,x.snd))
  (fun s=>(s.1,(s.2:Int))) (fun s=>l.length - s.2) (fun s=>s.2<=l.length/\x9 s.1 (ca 0 (l.take s.2)) (2 * s.2+1)) (by
   rintro⟨x,i⟩ ⟨h1,h2⟩
   simp only at h1 h2⊢
   rcases Mr i l.length with hi|hi
   ·obtain⟨e,he⟩:=eb hi
    have ke:=h e (Mb he)
    obtain⟨y,hy,ny⟩:=JA h2 nt oM
    obtain⟨d,hd,nd⟩:=KU ((e.toNat:Int) - 48) oM oM
    obtain⟨z,hz,nz⟩:=KV ny nd oM oM
    refine .inl ⟨(z,i+1),⟨hi, ?_⟩,by simp only;omega, ?_⟩
    ·have e1:ca 0 (l.take (i+1))=ca 0 (l.take i) * 10+((e.toNat:Int) - 48):=by rw[cP he,A5];omega
     rw[e1]
     exact⟨nz.neg,nz.ok,nz.nz,nz.val,by have:=nz.len;simp only;omega⟩
    ·simp only[bp hi,Mf,aw,he,L8,w8 ke,bN i oM,hy]
     rw[ge ((e.toNat:Int) - 48) oM oM,hd]
     simp only[L8,hz]
   ·have hl':i=l.length:=by omega
    subst hl'
    rw[MQ] at h2
    have h0:=h2.nn
    have hend:∀ c:b9×Int,(bif neg then(bP x).bind fun x_1=>bif decide (x_1=0) then some (({fUnits:=0,fPlaces:=0}:b9),(10:Int)) else(bJ x).bind fun x=>(dA x (b.length:Int)).bind fun x=>some (x.fst,x.snd) else(dA x (b.length:Int)).bind fun x=>some (x.fst,x.snd))=some c->True:=fun _ _=>trivial
    have hfin:∃ c:b9×Int,(bif neg then(bP x).bind fun x_1=>bif decide (x_1=0) then some (({fUnits:=0,fPlaces:=0}:b9),(10:Int)) else(bJ x).bind fun x=>(dA x (b.length:Int)).bind fun x=>some (x.fst,x.snd) else(dA x (b.length:Int)).bind fun x=>some (x.fst,x.snd))=some c/\decide (c.2=0)=Iz neg (ca 0 l):=by
     cases neg with
     |false=>
      obtain⟨d,e,k1,k2⟩:=GU x.fneg x.fabs b.length h2.ok h2.nz
      rw[h2.val] at k2
      exact⟨(d,e),by simp only[Mg];rw[show dA x (b.length:Int)=some (d,e) from k1];rfl,by simp only[Iz,Mo,Bool.true_or,Mj];exact k2⟩
     |true=>
      rw[KX h2]
      simp only[Mf,L8]
      by_cases hv:ca 0 l=0
      ·rw[NH hv,hv];exact⟨_,rfl,rfl⟩
      ·rw[NY hv]
       obtain⟨u,k1,k2,k3,k4,k5⟩:=JB h2 oM hv
       obtain⟨d,e,q1,q2⟩:=GU true u b.length k2 k3
       rw[k4] at q2
       refine⟨(d,e), ?_, ?_⟩
       ·rw[k1];simp only[L8,q1];rfl
       ·simp only[Iz,Mm,MB,hv,ne_eq,not_false_eq_true,NF,Mj];exact q2
    obtain⟨c,k1,k2⟩:=hfin
    exact .inr ⟨.inl (x,(l.length:Int)),c,by simp only[an,Mg];rfl,k1,k2⟩) (x,0) ⟨ME _,by simpa[ca] using nx⟩
 obtain⟨⟨d,e⟩,hc,hr⟩:=key
 exact⟨d,e,hc,hr⟩
def D_ (s:List UInt8):Bool:=
 let c:=Lib.cut (Lib.trimPrefix s [45]) [46]
 decide (s.length<=40)&&(xk c.1&&(!c.2.2||(nQ c.2.1&&decide (c.2.1.length<=9)))&&Iz (Lib.hasPrefix s [45]) (ca 0 (c.1++c.2.1)))
theorem E2 (s sep:List UInt8):(Lib.cut s sep).1.length<=s.length/\(Lib.cut s sep).2.1.length<=s.length/\(Lib.cut s sep).1.length+(Lib.cut s sep).2.1.length<=s.length/\((Lib.cut s sep).2.2=false->(Lib.cut s sep).2.1=[]):=by
 unfold Lib.cut
 split
 ·refine⟨?_, ?_, ?_,fun h=>by cases h⟩
  ·simp only[MK];omega
  ·simp only[Nq];omega
  ·simp only[MK,Nq];omega
 ·exact⟨Me _,by simp,by simp,fun _=>rfl⟩
theorem rE (s p:List UInt8):(Lib.trimPrefix s p).length<=s.length:=by
 unfold Lib.trimPrefix
 split
 ·simp only[Nq];omega
 ·exact Me _
theorem Ea (s:List UInt8) (hs':s.length<=1000):∃ d e,jg s=some (d,e)/\decide (e=0)=D_ s:=by
 by_cases hs:s.length<=40
 case neg=>
  unfold jg qx;dsimp only
  have hp:=rE s [45]
  have hcut:dC (Lib.trimPrefix s [45]) [46]=some (Lib.cut (Lib.trimPrefix s [45]) [46]):=by unfold dC;rw[NH oM]
  have hd:decide (40<((s.length:Nat):Int))=true:=by simp;omega
  simp only[dO,L8,hcut,hd]
  refine⟨_,_,rfl, ?_⟩
  unfold D_
  rw[Ni hs];rfl
 unfold jg qx;dsimp only
 have hp:=rE s [45]
 obtain⟨c1,c2,c3,c4⟩:=E2 (Lib.trimPrefix s [45]) [46]
 have hcut:dC (Lib.trimPrefix s [45]) [46]=some (Lib.cut (Lib.trimPrefix s [45]) [46]):=by unfold dC;rw[NH oM]
 have hd:decide (40<((s.length:Nat):Int))=false:=by simp;omega
 simp only[dO,L8,hcut,hd]
 unfold D_
 rw[M9 hs,Mj]
 generalize Lib.cut (Lib.trimPrefix s [45]) [46]=c at c1 c2 c3 c4
 obtain⟨a,b,p⟩:=c
 simp only at c1 c2 c3 c4⊢
 rw[FR a oM,wj b oM]
 simp only[L8,bz,aO,MB]
 cases ha:xk a with
 |false=>exact⟨_,_,rfl,rfl⟩
 |true=>
  simp only[Mm,MB,Mj]
  have da:sr a:=lL (by unfold xk at ha;simp only[L9] at ha;exact ha.1)
  have fin:sr b->∃ d e,(nO (Lib.hasPrefix s [45]) a b).bind (fun x=>some (x.fst,x.snd))=some (d,e)/\decide (e=0)=Iz (Lib.hasPrefix s [45]) (ca 0 (a++b)):=fun db=>by
   obtain⟨d,e,k1,k2⟩:=J0 (Lib.hasPrefix s [45]) a b (fun x hx=>(Mt.1 hx).elim (da x) (db x)) (by rw[Mh];omega)
   exact⟨d,e,by rw[k1];rfl,k2⟩
  cases p with
  |false=>
   have hb:=c4 rfl
   subst hb
   simp only[NU,Mg,Mo,Bool.true_or,Mj]
   exact fin (fun x hx=>by simp at hx)
  |true=>
   simp only[Mj,Mm,MB]
   cases hb:nQ b with
   |false=>exact⟨_,_,rfl,rfl⟩
   |true=>
    by_cases h9:b.length<=9
    ·have e1:decide (9<((b.length:Nat):Int))=false:=by simp;omega
     simp only[e1,Mm,NX,Mg,M9 h9,NK,Mj]
     exact fin (lL hb)
    ·have e1:decide (9<((b.length:Nat):Int))=true:=by simp;omega
     simp only[e1,Bool.or_true,Mf,Ni h9,N8,NU]
     exact⟨_,_,rfl,rfl⟩
theorem A6:∀ {l:List UInt8},sr l->(ca 0 l=0↔∀ c∈l,([48]:List UInt8).contains c=true)
 |[],_=>by simp[ca]
 |c::l,h=>by
  have hc:=h c (MP ..)
  have hl:sr l:=fun x hx=>h x (M3 _ hx)
  have ih:=A6 hl
  have hcc:([48]:List UInt8).contains c=true↔c.toNat=48:=by
   simp only[List.contains_cons,List.contains_nil,NX,Mc]
   constructor
   ·rintro rfl;rfl
   ·intro e;exact UInt8.toNat_inj.1 (by simpa using e)
  have hd:ca 0 (c::l)=ca ((c.toNat:Int) - 48) l:=by show ca (10 * 0+_) l=_;simp
  rw[hd]
  by_cases h48:c.toNat=48
  ·rw[h48]
   show ca 0 l=0↔_
   rw[ih]
   constructor
   ·intro k x hx
    rcases Ml.1 hx with rfl|hx
    ·exact hcc.2 h48
    ·exact k x hx
   ·exact fun k x hx=>k x (M3 _ hx)
  ·constructor
   ·intro k
    have:=y7 (l:=l) (n:=(c.toNat:Int) - 48) hl oM
    omega
   ·intro k
    exact absurd (hcc.1 (k c (MP ..))) h48
theorem Eb (s:List UInt8) (hs':s.length<=1000):∃ d e,dF s=some (d,e)/\decide (e=0)=D_ s:=by
 by_cases hs:s.length<=40
 case neg=>
  unfold dF qy;dsimp only
  have hp:=rE s [45]
  have hcut:dC (Lib.trimPrefix s [45]) [46]=some (Lib.cut (Lib.trimPrefix s [45]) [46]):=by unfold dC;rw[NH oM]
  have hd:decide (40<((s.length:Nat):Int))=true:=by simp;omega
  simp only[dO,L8,hcut,hd]
  refine⟨_,_,rfl, ?_⟩
  unfold D_
  rw[Ni hs];rfl
 unfold dF qy;dsimp only
 have hp:=rE s [45]
 obtain⟨c1,c2,c3,c4⟩:=E2 (Lib.trimPrefix s [45]) [46]
 have hcut:dC (Lib.trimPrefix s [45]) [46]=some (Lib.cut (Lib.trimPrefix s [45]) [46]):=by unfold dC;rw[NH oM]
 have hd:decide (40<((s.length:Nat):Int))=false:=by simp;omega
 simp only[dO,L8,hcut,hd,Mg]
 unfold D_
 rw[M9 hs,Mj]
 generalize Lib.cut (Lib.trimPrefix s [45]) [46]=c at c1 c2 c3 c4
 generalize Lib.hasPrefix s [45]=neg
 obtain⟨a,b,p⟩:=c
 simp only at c1 c2 c3 c4⊢
 rw[y_ a oM,y_ b oM,bU (pc (show a.length+b.length<=1000 by omega)),bU (pc (show a.length+b.length<=1000 by omega))]
 simp only[L8,bz]
 unfold xk
 cases ha:nQ a with
 |false=>exact⟨_,_,rfl,rfl⟩
 |true=>
  obtain⟨c,hc,hh⟩:=A4 (y9 ha)
  have la:a.length≠0:=fun e=>y9 ha (Ms.1 e)
  simp only[hc,hh,L8,aO,bz,Mm,MB,Mj]
  have h1:(decide (1<((a.length:Nat):Int))&&decide ((c.toNat:Int)=48))= !(decide (((a.length:Nat):Int)=1)|| !decide ((c.toNat:Int)=48)):=by
   rw[Mp];simp;omega
  rw[h1]
  cases hw:(decide (((a.length:Nat):Int)=1)|| !decide ((c.toNat:Int)=48)) with
  |false=>exact⟨_,_,rfl,rfl⟩
  |true=>
   simp only[Mm,MB,Mj]
   have da:=lL ha
   have fin:sr b->∃ d e,((ov neg ((dM (a++b) [48]).bind fun x=>some (decide (x=[])))).bind fun v=>bif v then some (({fUnits:=0,fPlaces:=0}:b9),(10:Int)) else(dE (a++b)).bind fun x_3=>bif !x_3.snd then some ({fUnits:=0,fPlaces:=0},1) else bif neg then some ({fUnits:=IntKind.i64.wrap (0 - x_3.fst),fPlaces:=(b.length:Int)},0) else some ({fUnits:=x_3.fst,fPlaces:=(b.length:Int)},0))=some (d,e)/\decide (e=0)=Iz neg (ca 0 (a++b)):=fun db=>by
    have dl:sr (a++b):=fun x hx=>(Mt.1 hx).elim (da x) (db x)
    have ll:(a++b).length<=40:=by rw[Mh];omega
    generalize hab:a++b=l at dl ll⊢
    have ht:dM l [48]=some (Lib.trimS l [48]):=by unfold dM;rw[NH ⟨by omega,by simp,by decide⟩]
    have hz:decide (Lib.trimS l [48]=[])=decide (ca 0 l=0):=by
     rw[Mp,Ma,Ma,An,A6 dl]
    obtain⟨r,hr, -⟩:=za l dl oM
    rw[ht,hr]
    simp only[L8,aO,hz]
    unfold Iz
    cases neg with
    |false=>
     simp only[NU,Mg,Mo,Bool.true_or,Mj]
     cases decide (ca 0 l<=1000000000000000)<;>exact⟨_,_,rfl,rfl⟩
    |true=>
     simp only[Mj,Mm,MB]
     by_cases hv:ca 0 l=0
     ·rw[M9 hv,Ni (show¬ ca 0 l≠0 by simp[hv])];exact⟨_,_,rfl,rfl⟩
     ·rw[Ni hv,M9 (show ca 0 l≠0 from hv)]
      cases decide (ca 0 l<=1000000000000000)<;>exact⟨_,_,rfl,rfl⟩
   cases p with
   |false=>
    have hb:=c4 rfl
    subst hb
    simp only[NU,Mo,Bool.true_or,Mj]
    exact fin (fun x hx=>by simp at hx)
   |true=>
    simp only[Mj,Mm,MB]
    cases hb:nQ b with
    |false=>exact⟨_,_,rfl,rfl⟩
    |true=>
     by_cases h9:b.length<=9
     ·have e1:decide (9<((b.length:Nat):Int))=false:=by simp;omega
      simp only[e1,Mm,NX,Mg,M9 h9,NK,Mj]
      exact fin (lL hb)
     ·have e1:decide (9<((b.length:Nat):Int))=true:=by simp;omega
      simp only[e1,Bool.or_true,Mf,Ni h9,N8,NU]
      exact⟨_,_,rfl,rfl⟩
theorem E3:∀ (l:List UInt8) (a:Nat),sr l->∃ n:Nat,Lib.decFrom a l=some n/\(n:Int)=ca a l
 |[],a,_=>⟨a,rfl,rfl⟩
 |b::l,a,h=>by
  have hb:=h b (MP ..)
  obtain⟨n,k1,k2⟩:=E3 l (a * 10+(b.toNat - 48)) fun c hc=>h c (M3 _ hc)
  refine⟨n, ?_, ?_⟩
  ·unfold Lib.decFrom Lib.digitVal
   rw[NH hb];exact k1
  ·rw[k2]
   show ca _ l=ca _ l
   congr 1;omega
theorem GV {l:List UInt8} (h1:l≠[]) (h2:l.length<=18) (h3:sr l):j1 l=some (ca 0 l):=by
 unfold j1
 rw[NH h2]
 cases l with
 |nil=>exact absurd rfl h1
 |cons b r=>
  have hb:=h3 b (MP ..)
  obtain⟨n,hn,hv⟩:=E3 (b::r) 0 h3
  have e1:(b==45)=false:=by rw[N4];rintro rfl;revert hb;decide
  have e2:(b==43)=false:=by rw[N4];rintro rfl;revert hb;decide
  have e3:Lib.decNat (b::r)=some n:=by unfold Lib.decNat;rw[NY oS];exact hn
  simp only[Lib.atoi,e1,e2,e3,MS]
  rw[<-show ca 0 (b::r)=ca ((0:Nat):Int) (b::r) from rfl] at hv
  simp[hv]
def A7 (y:Int):Bool:=decide (y%4=0)&&(!decide (y%100=0)||decide (y%400=0))
def BX (y m:Int):Int:=if m=2 then(if A7 y=true then 29 else 28) else if m=4\/m=6\/m=9\/m=11 then 30 else 31
def wk (y m d:Int):Bool:=decide (1<=y)&&decide (y<=9999)&&decide (1<=m)&&decide (m<=12)&&decide (1<=d)&&decide (d<=BX y m)
theorem zb (a b c:Int):q9 a b c=some (decide (a<b)||decide (c<a)):=by
 unfold q9 a_;dsimp only
 simp only[bz,L8]
theorem CV (a b c:Int):gA a b c=some (decide (b<=a)&&decide (a<=c)):=by
 unfold gA dU;dsimp only
 simp only[aO,L8]
theorem J1 {y:Int} (h:0<=y):oG y=some (A7 y):=by
 unfold oG dT;dsimp only
 simp only[bz,aO,L8,Int.tmod_eq_emod_of_nonneg h];rfl
theorem J2 {y:Int} (h:0<=y):gC y=some (A7 y):=by
 unfold gC dU;dsimp only
 simp only[bz,aO,L8,Int.tmod_eq_emod_of_nonneg h]
 congr 1
 unfold A7
 rw[Mp];simp;omega
theorem GW {m:Int} (h0:1<=m) (h1:m<=12):m=1\/m=2\/m=3\/m=4\/m=5\/m=6\/m=7\/m=8\/m=9\/m=10\/m=11\/m=12:=by omega
theorem JG {y m:Int} (h:0<=y) (h0:1<=m) (h1:m<=12):oI y m=some (BX y m):=by
 unfold oI tC;dsimp only
 rw[J1 h]
 rw[ge (m - 1) oM oM]
 unfold BX
 cases hl:A7 y<;>rcases GW h0 h1 with rfl|rfl|rfl|rfl|rfl|rfl|rfl|rfl|rfl|rfl|rfl|rfl<;>rfl
theorem JH {y m:Int} (h:0<=y) (h0:1<=m) (h1:m<=12):gE y m=some (BX y m):=by
 unfold gE tG;dsimp only
 rw[J2 h]
 unfold BX
 cases hl:A7 y<;>rcases GW h0 h1 with rfl|rfl|rfl|rfl|rfl|rfl|rfl|rfl|rfl|rfl|rfl|rfl<;>rfl
theorem x_ {R:Type} {D:Int->Option Int} {m:Int} (hm:m<=12) (hD:∀ i,1<=i->i<=12->∃ d,D i=some d) (k:Int->R) (a:Int) {r:Option R}
  (hr:r=(dD (fun s:Int×Int=>bif decide (s.snd<m) then(D s.snd).bind fun x=>some (Sum.inl (IntKind.i64.wrap (s.fst+x),IntKind.i64.wrap (s.snd+1))) else dy (some (Sum.inl (s.fst,s.snd)))) (a,1)).bind (dg fun s=>some (k s.fst))):∃ z,r=some (k z):=by
 rw[hr]
 have:=ld (R:=R) (X:=Int×Nat) (C:=fun c=>∃ z,c=k z) (f:=fun s:Int×Int=>bif decide (s.snd<m) then(D s.snd).bind fun x=>some (Sum.inl (IntKind.i64.wrap (s.fst+x),IntKind.i64.wrap (s.snd+1))) else dy (some (Sum.inl (s.fst,s.snd)))) (k:=dg fun s=>some (k s.fst))
  (fun s=>(s.1,(s.2:Int))) (fun s=>12 - s.2) (fun s=>1<=s.2) (by
   rintro⟨b,i⟩ hi
   simp only at hi⊢
   by_cases hc:(i:Int)<m
   ·obtain⟨d,hd⟩:=hD i oM oM
    refine .inl ⟨(IntKind.i64.wrap (b+d),i+1),by simp only;omega,by simp only;omega, ?_⟩
    simp only[M9 hc,Mf,hd,L8,bN i oM]
   ·exact .inr ⟨_,k b,by rw[Ni hc];rfl,rfl,b,rfl⟩) (a,1) oS
 obtain⟨c,hc,z,rfl⟩:=this
 exact⟨z,hc⟩
theorem ID {y m d:Int} (hy:0<=y):∃ n,mC y m d=some (n,wk y m d):=by
 unfold mC tD;dsimp only
 simp only[zb,L8,bz]
 have hyB:(decide (y<1)||decide (9999<y)||(decide (m<1)||decide (12<m)))= !(decide (1<=y)&&decide (y<=9999)&&decide (1<=m)&&decide (m<=12)):=by
  rw[Mp];simp;omega
 rw[hyB]
 unfold wk
 cases hq:(decide (1<=y)&&decide (y<=9999)&&decide (1<=m)&&decide (m<=12)) with
 |false=>exact⟨_,rfl⟩
 |true=>
  simp only[L9,Ma] at hq
  obtain⟨⟨⟨q1,q2⟩,q3⟩,q4⟩:=hq
  rw[JG hy q3 q4]
  simp only[Mm,L8,BE,Mg,Mj]
  have hd:(decide (d<1)||decide (BX y m<d))= !(decide (1<=d)&&decide (d<=BX y m)):=by
   rw[Mp];simp<;>omega
  rw[hd]
  cases(decide (1<=d)&&decide (d<=BX y m)) with
  |false=>exact⟨_,rfl⟩
  |true=>
   simp only[Mm,Mg]
   have hb:∃ b,oH y=some b:=by unfold oH dT;dsimp only;exact⟨_,rfl⟩
   obtain⟨b,hb⟩:=hb
   rw[hb]
   exact x_ (k:=fun z=>(z,true)) q4 (fun i h0 h1=>⟨_,JG hy h0 h1⟩) _ rfl
theorem IE {y m d:Int} (hy:0<=y\/y= -1):∃ n e,eH y m d=some (n,e)/\decide (e=0)=wk y m d:=by
 unfold eH tI;dsimp only
 simp only[CV,L8,bz]
 unfold wk
 have hyB:(!(decide (1<=y)&&decide (y<=9999))|| !(decide (1<=m)&&decide (m<=12)))= !(decide (1<=y)&&decide (y<=9999)&&decide (1<=m)&&decide (m<=12)):=by
  cases decide (1<=y)<;>cases decide (y<=9999)<;>cases decide (1<=m)<;>cases decide (m<=12)<;>rfl
 rw[hyB]
 cases hq:(decide (1<=y)&&decide (y<=9999)&&decide (1<=m)&&decide (m<=12)) with
 |false=>exact⟨_,_,rfl,rfl⟩
 |true=>
  simp only[L9,Ma] at hq
  obtain⟨⟨⟨q1,q2⟩,q3⟩,q4⟩:=hq
  rw[JH oM q3 q4]
  simp only[Mm,L8,BE,Mg,Mj]
  cases(decide (1<=d)&&decide (d<=BX y m)) with
  |false=>exact⟨_,_,rfl,rfl⟩
  |true=>
   simp only[Mm,Mg]
   have hb:∃ b,gD y=some b:=by unfold gD dU;dsimp only;exact⟨_,rfl⟩
   obtain⟨b,hb⟩:=hb
   have hd:∃ z,g_ y m d=some z:=by
    unfold g_ tH;dsimp only
    rw[hb]
    exact x_ (k:=fun z=>z) q4 (fun i h0 h1=>⟨_,JH oM h0 h1⟩) _ rfl
   obtain⟨z,hz⟩:=hd
   rw[hz];exact⟨_,_,rfl,rfl⟩
def AF (s:List UInt8):Bool:=decide (s.length=8)&&s.all gy&&wk (ca 0 (s.take 4)) (ca 0 ((s.drop 4).take 2)) (ca 0 ((s.drop 4).drop 2))
theorem jD {l:List UInt8} (n:Nat):l.all gy=((l.take n).all gy&&(l.drop n).all gy):=by
 conv=>lhs;rw[<-MM n l]
 rw[List.all_append]
theorem iB {l:List UInt8} (h:l≠[]):nQ l=l.all gy:=by simp[nQ,h]
theorem K7 (l:List UInt8) (n:Nat) (h:n<=l.length):eu l ((none:Option Int).getD 0) ((some (n:Int)).getD (l.length:Int))=some (l.take n):=by
 simp only[Nf,MO,eu]
 rw[NH ⟨Na _,by omega,by omega⟩];simp
theorem GX (l:List UInt8) (n:Nat) (h:n<=l.length):eu l ((some (n:Int)).getD 0) ((none:Option Int).getD (l.length:Int))=some (l.drop n):=by
 simp only[Nf,MO,eu]
 rw[NH ⟨by omega,by omega,Na _⟩];simp
theorem IF (s:List UInt8) (hs:s.length<=1000):∃ n,pF s [4,2,2]=some (n,decide (s.length=8)&&s.all gy)/\((decide (s.length=8)&&s.all gy)=true->n=[ca 0 (s.take 4),ca 0 ((s.drop 4).take 2),ca 0 ((s.drop 4).drop 2)]):=by
 unfold pF dT;dsimp only
 have step:∀ (t:List UInt8) (o:List Int) (i n:Nat),t.length<=1000->o.length<=10->i<3->1<=n->n<=4->([4,2,2]:List Int)[i]?=some (n:Int)->
   (bif decide ((i:Int)<(([4,2,2]:List Int).length:Int)) then(b_ ([4,2,2]:List Int) (i:Int)).bind fun e=>(BE (decide (((t.length:Nat):Int)<e)) ((eu t ((none:Option Int).getD 0) ((some e).getD ((t.length:Nat):Int))).bind fun e=>(mA e).bind fun x=>some !x)).bind fun v=>bif v then dy (dy (some (([]:List Int),false))) else(eu t ((none:Option Int).getD 0) ((some e).getD ((t.length:Nat):Int))).bind fun e_1=>(j1 e_1).bind fun x=>lS (sN (o.length+[x].length)) ((eu t ((some e).getD 0) ((none:Option Int).getD ((t.length:Nat):Int))).bind fun e=>some (Sum.inl (e,o++[x],IntKind.i64.wrap ((i:Int)+1)))) else dy (some (Sum.inl (t,o,(i:Int)))):Option ((List UInt8×List Int×Int)⊕((List UInt8×List Int×Int)⊕(List Int×Bool))))=
   if n<=t.length/\(t.take n).all gy=true then some (.inl (t.drop n,o++[ca 0 (t.take n)],((i+1:Nat):Int))) else some (.inr (.inr ([],false))):=by
  intro t o i n ht ho hi h1 h4 hn
  have hd:decide ((i:Int)<(([4,2,2]:List Int).length:Int))=true:=by simp;omega
  simp only[hd,Mf,aw,hn,L8]
  by_cases hlt:n<=t.length
  ·have e1:decide (((t.length:Nat):Int)<(n:Int))=false:=by simp;omega
   have hne:t.take n≠[]:=by intro e;have:=congrArg List.length e;rw[MK,Nj] at this;omega
   have htl:(t.take n).length=n:=by rw[MK];omega
   simp only[e1,BE,Mg,K7 t n hlt,GX t n hlt,L8]
   rw[wj _ oM,iB hne]
   cases ha:(t.take n).all gy with
   |false=>rw[NY oS];rfl
   |true=>
    rw[NH ⟨hlt,rfl⟩]
    simp only[L8,Mm,Mg]
    rw[GV hne oM (lL (by rw[iB hne];exact ha))]
    simp only[L8,bN i oM]
    exact fZ oT
  ·have e1:decide (((t.length:Nat):Int)<(n:Int))=true:=by simp;omega
   rw[NY oM,e1];rfl
 have fin:∀ (q:Option (List Int×Bool)) (b:Bool),b=(decide (s.length=8)&&s.all gy)->(∃ n,q=some (n,b)/\(b=true->n=[ca 0 (s.take 4),ca 0 ((s.drop 4).take 2),ca 0 ((s.drop 4).drop 2)]))->∃ n,q=some (n,decide (s.length=8)&&s.all gy)/\((decide (s.length=8)&&s.all gy)=true->n=[ca 0 (s.take 4),ca 0 ((s.drop 4).take 2),ca 0 ((s.drop 4).drop 2)]):=by
  rintro q b rfl h;exact h
 have s1:=step s [] 0 4 hs oS oM oM oM rfl
 rw[ck]
 rw[show((0:Nat):Int)=0 from rfl] at s1
 simp only
 rw[s1]
 by_cases c1:4<=s.length/\(s.take 4).all gy=true
 ·rw[NH c1]
  simp only
  have s2:=step (s.drop 4) ([]++[ca 0 (s.take 4)]) 1 2 oT oS oM oM oM rfl
  rw[ck]
  simp only
  rw[show((0+1:Nat):Int)=((1:Nat):Int) from rfl,s2]
  by_cases c2:2<=(s.drop 4).length/\((s.drop 4).take 2).all gy=true
  ·rw[NH c2]
   simp only
   have s3:=step ((s.drop 4).drop 2) ([]++[ca 0 (s.take 4)]++[ca 0 ((s.drop 4).take 2)]) 2 2 oT oS oM oM oM rfl
   rw[ck]
   simp only
   rw[show((1+1:Nat):Int)=((2:Nat):Int) from rfl,s3]
   by_cases c3:2<=((s.drop 4).drop 2).length/\(((s.drop 4).drop 2).take 2).all gy=true
   ·rw[NH c3]
    simp only
    rw[ck]
    have hd:decide (((2+1:Nat):Int)<(([4,2,2]:List Int).length:Int))=false:=by decide
    simp only[hd,Mg,dy,MS,L8,dg]
    have l2:(s.drop 4).length=s.length - 4:=by simp
    have l3:((s.drop 4).drop 2).length=s.length - 4 - 2:=by rw[Nq,Nq]
    have l4:(((s.drop 4).drop 2).drop 2).length=s.length - 4 - 2 - 2:=by rw[Nq,Nq,Nq]
    refine fin _ (decide ((((s.drop 4).drop 2).drop 2)=[])) ?_ ⟨_,rfl,fun hh=> ?_⟩
    ·rw[jD (l:=s) 4,c1.2,jD (l:=s.drop 4) 2,c2.2,jD (l:=(s.drop 4).drop 2) 2,c3.2]
     by_cases he:(((s.drop 4).drop 2).drop 2)=[]
     ·have:=congrArg List.length he
      rw[l4,Nj] at this
      rw[he]
      simp;omega
     ·have hl:¬ s.length=8:=fun e=>he (Ms.1 oM)
      rw[Ni he,Ni hl];rfl
    ·have he:=of_decide_eq_true hh
     have:=congrArg List.length he
     rw[l4,Nj] at this
     rw[MF (l:=(s.drop 4).drop 2) oM];rfl
   ·rw[NY c3]
    refine fin _ false ?_ ⟨_,rfl,fun hh=>by cases hh⟩
    symm
    rw[Bool.eq_false_iff]
    intro hh
    simp only[L9,Ma] at hh
    refine c3 ⟨by simp;omega, ?_⟩
    have k1:=hh.2
    rw[jD (l:=s) 4,jD (l:=s.drop 4) 2,jD (l:=(s.drop 4).drop 2) 2] at k1
    simp only[L9] at k1
    exact k1.2.2.1
  ·rw[NY c2]
   refine fin _ false ?_ ⟨_,rfl,fun hh=>by cases hh⟩
   symm
   rw[Bool.eq_false_iff]
   intro hh
   simp only[L9,Ma] at hh
   refine c2 ⟨by simp;omega, ?_⟩
   have k1:=hh.2
   rw[jD (l:=s) 4,jD (l:=s.drop 4) 2] at k1
   simp only[L9] at k1
   exact k1.2.1
 ·rw[NY c1]
  refine fin _ false ?_ ⟨_,rfl,fun hh=>by cases hh⟩
  symm
  rw[Bool.eq_false_iff]
  intro hh
  simp only[L9,Ma] at hh
  refine c1 ⟨by omega, ?_⟩
  have k1:=hh.2
  rw[jD (l:=s) 4] at k1
  simp only[L9] at k1
  exact k1.1
theorem FT (s:List UInt8) (hs:s.length<=1000):∃ d e,nB s 1 1=some (d,e)/\decide (e=0)=AF s:=by
 obtain⟨n,hn,hv⟩:=IF s hs
 have hr:∃ z,nA s 1 1=some (z,AF s):=by
  unfold nA tE;dsimp only
  rw[show decide ((1:Int)=1)=true from rfl]
  simp only[Mf]
  rw[hn]
  unfold AF
  cases hc:(decide (s.length=8)&&s.all gy) with
  |false=>exact⟨_,rfl⟩
  |true=>
   rw[hv hc]
   have da:sr s:=fun c hcm=>by
    simp only[L9,MD] at hc
    simpa[gy] using hc.2 c hcm
   obtain⟨z,hz⟩:=ID (m:=ca 0 ((s.drop 4).take 2)) (d:=ca 0 ((s.drop 4).drop 2)) (y8 (da.take 4) (Na _))
   refine⟨z, ?_⟩
   show(mC _ _ _).bind _=_
   rw[hz];rfl
 obtain⟨z,hz⟩:=hr
 have hf:oF 1=some true:=by
  unfold oF dT;dsimp only
  rw[zb];rfl
 unfold nB tF;dsimp only
 rw[hf,zb,hz]
 simp only[L8]
 cases AF s<;>exact⟨_,_,rfl,rfl⟩
theorem zd (l:List UInt8) (h1:l.length<=14):gB l=some (if nQ l=true then ca 0 l else -1):=by
 unfold gB dU;dsimp only
 rw[y_ l oM]
 cases hd:nQ l with
 |false=>rfl
 |true=>
  have hb:∀ (l:List UInt8) (n:Int),sr l->0<=n->ca n l<(n+1) * 10^l.length:=by
   intro l
   induction l with
   |nil=>intro n _ _;simp[ca];omega
   |cons c l ih=>
    intro n h h0
    have hc:=h c (MP ..)
    have:=ih (10 * n+((c.toNat:Int) - 48)) (fun x hx=>h x (M3 _ hx)) oM
    refine Int.lt_of_lt_of_le this ?_
    rw[Mv,N7,Int.mul_comm (10^l.length) 10,<-Int.mul_assoc]
    exact Int.mul_le_mul_of_nonneg_right oM (Int.pow_nonneg oM)
  have hlt:=hb l 0 (lL hd) (Na _)
  have hp:(10:Int)^l.length<=10^14:=by
   have:=Nat.pow_le_pow_right (show 0<10 by omega) h1
   exact_mod_cast this
  obtain⟨r,hr,hv⟩:=za l (lL hd) oM
  have hv:=hv oM
  subst hv
  simp only[L8,Mm,Mg,hr,Nr]
theorem FV (s:List UInt8) (hs:s.length<=1000):∃ d e,gf s 1 1=some (d,e)/\decide (e=0)=AF s:=by
 unfold gf tJ;dsimp only
 simp only[CV,L8]
 have a1:(decide ((1:Int)<=1)&&decide ((1:Int)<=5))=true:=rfl
 have a2:(decide ((1:Int)<=1)&&decide ((1:Int)<=9900))=true:=rfl
 have a3:decide ((1:Int)=1)=true:=rfl
 have a4:decide ((1:Int)=2)=false:=rfl
 have a5:decide ((1:Int)=3)=false:=rfl
 have a6:decide ((1:Int)=4)=false:=rfl
 have a7:decide ((1:Int)=5)=false:=rfl
 simp only[a1,a2,a3,a4,a5,a6,a7,Mm,Mg,ov,Mf,L8]
 have fin:∀ y m d:Int,(0<=y\/y= -1)->wk y m d=AF s->∃ z e,((eH y m d).bind fun x=>bif !decide (x.snd=0) then some ((0:Int),(10:Int)) else some (x.fst,0))=some (z,e)/\decide (e=0)=AF s:=by
  intro y m d hy hq
  obtain⟨n,e,k1,k2⟩:=IE (m:=m) (d:=d) hy
  rw[k1,<-hq,<-k2]
  simp only[L8]
  cases decide (e=0)<;>exact⟨_,_,rfl,rfl⟩
 by_cases h8:s.length=8
 ·have d8:decide (((s.length:Nat):Int)=8)=true:=by simp;omega
  simp only[d8,Mf]
  have t1:eu s ((none:Option Int).getD 0) ((some (4:Int)).getD ((s.length:Nat):Int))=some (s.take 4):=K7 s 4 oM
  have t2:eu s ((some (4:Int)).getD 0) ((some (6:Int)).getD ((s.length:Nat):Int))=some ((s.drop 4).take 2):=by
   simp only[MO,eu]
   rw[NH ⟨by omega,by omega,by omega⟩]
   simp[List.take_drop]
  have t3:eu s ((some (6:Int)).getD 0) ((none:Option Int).getD ((s.length:Nat):Int))=some ((s.drop 4).drop 2):=by
   rw[Ns];exact GX s 6 oM
  simp only[t1,t2,t3,L8]
  have l1:(s.take 4).length=4:=by simp;omega
  have l2:((s.drop 4).take 2).length=2:=by simp;omega
  have l3:((s.drop 4).drop 2).length=2:=by simp;omega
  have n1:s.take 4≠[]:=fun e=>by rw[e] at l1;simp at l1
  have n2:(s.drop 4).take 2≠[]:=fun e=>by rw[e] at l2;simp at l2
  have n3:(s.drop 4).drop 2≠[]:=fun e=>by rw[e] at l3;simp at l3
  rw[zd _ oM,zd _ oM,zd _ oM,iB n1,iB n2,iB n3]
  simp only[L8]
  have hall:s.all gy=((s.take 4).all gy&&(((s.drop 4).take 2).all gy&&((s.drop 4).drop 2).all gy)):=by rw[jD (l:=s) 4,jD (l:=s.drop 4) 2]
  refine fin _ _ _ ?_ ?_
  ·split
   ·rename_i h
    exact .inl (y8 (lL (by rw[iB n1];exact h)) (Na _))
   ·exact .inr rfl
  ·unfold AF
   rw[hall,M9 h8,Mj]
   cases h1:(s.take 4).all gy with
   |false=>simp[wk]
   |true=>
    cases h2:((s.drop 4).take 2).all gy with
    |false=>simp[wk]
    |true=>
     cases h3:((s.drop 4).drop 2).all gy with
     |false=>simp[wk]
     |true=>simp
 ·have d8:decide (((s.length:Nat):Int)=8)=false:=by simp;omega
  simp only[d8,Mg,L8]
  refine fin (-1) (-1) (-1) (.inr rfl) ?_
  unfold AF
  rw[Ni h8];rfl
def oq {α:Type} (st:Option α->α->Int):Option α->List α->Int
 |_,[]=>0
 |p,x::l=>if st p x=0 then oq st (some x) l else st p x
def nj {α:Type} (l:List α) (i:Nat):Option α:=if i=0 then none else l[i - 1]?
theorem j3 {α A:Type} (l:List α) (st:Option α->α->Int) (ret:Int->A) {f:Int->Option (Int⊕(Int⊕A))} {K:Int->Option A}
  (hb:∀ (i:Nat) (e:α),l[i]?=some e->f (i:Int)=if st (nj l i) e=0 then some (.inl ((i+1:Nat):Int)) else some (.inr (.inr (ret (st (nj l i) e))))) (he:f (l.length:Int)=some (.inr (.inl (l.length:Int)))):
  (dD f 0).bind (dg K)=if oq st none l=0 then K (l.length:Int) else some (ret (oq st none l)):=by
 refine jx (X:=Nat) (fun i=>((i:Nat):Int)) (fun i=>l.length - i) (fun i=>i<=l.length/\oq st none l=oq st (nj l i) (l.drop i)) ?_ 0 ⟨ME _,rfl⟩
 rintro i ⟨h1,h2⟩
 rcases Mr i l.length with hi|hi
 ·obtain⟨e,hx⟩:=eb hi
  have hd:l.drop i=e::l.drop (i+1):=by
   rw[Np hi]
   rw[Mi hi] at hx
   simp only[L7] at hx;rw[hx]
  rw[hd] at h2
  simp only[oq] at h2
  by_cases hs:st (nj l i) e=0
  ·rw[NH hs] at h2
   refine .inl ⟨i+1,⟨hi, ?_⟩,by omega,by rw[hb i e hx,NH hs]⟩
   rw[h2]
   have:nj l (i+1)=some e:=by unfold nj;rw[NY oM];simpa using hx
   rw[this]
  ·rw[NY hs] at h2
   refine .inr ⟨_,by rw[hb i e hx,NY hs], ?_⟩
   rw[h2,NY hs];rfl
 ·have hl:i=l.length:=by omega
  subst hl
  rw[Nl] at h2
  have h2:oq st none l=0:=h2
  exact .inr ⟨_,he,by rw[h2,NH rfl];rfl⟩
theorem xj {α:Type} {st:Option α->α->Int}:∀ {l:List α} {p:Option α},oq st p l=0->∀ x∈l,∃ q,st q x=0
 |[],_,_,x,hx=>by cases hx
 |y::l,p,h,x,hx=>by
  unfold oq at h
  by_cases hs:st p y=0
  ·rw[NH hs] at h
   rcases Ml.1 hx with rfl|hx
   ·exact⟨p,hs⟩
   ·exact xj h x hx
  ·rw[NY hs] at h;exact absurd h hs
def j4 (c:UInt8):Bool:=(decide (65<=c.toNat)&&decide (c.toNat<=90))||(decide (97<=c.toNat)&&decide (c.toNat<=122))||decide (c.toNat=32)
def CL (k:Int) (s:List UInt8):Bool:=if k=4 then D_ s else if k=5 then AF s else if k=2 then s.all j4 else if k=3 then s.all gy else true
def Is (d:ap) (s:List UInt8):Bool:=decide (1<=s.length/\s.length<=20)&&decide (d.fMin<=(s.length:Int)/\(s.length:Int)<=d.fMax)&&CL d.fType s&&s.all (uG 33 126)
def L3 (a b:List UInt8):Bool:=Op.bytesLess a b||decide (a=b)
def As (p:Option (List UInt8)) (s:List UInt8):Bool:=match p with|some q=>L3 s q|none=>false
def uC (d:ap) (p:Option (List UInt8)) (s:List UInt8):Int:=if Is d s=true then(if As p s=true then 8 else 0) else 3
def vt (d:ap):Int:=
 if¬ (1<=d.fType/\d.fType<=5) then 4
 else if¬ (1<=d.fMin/\d.fMin<=d.fMax)\/1000<d.fMax then 1
 else if d.fType=5/\(8<d.fMin\/d.fMax<8) then 3
 else if 50<d.fCodes.length then 2
 else oq (uC d) none d.fCodes
def yJ (e:aD):Int:=
 if¬ (1<=e.fMost/\e.fMost<=20) then 1
 else if e.fParts=[] then 9
 else if 20<e.fParts.length then 2
 else oq (fun _ p=>vt p) none e.fParts
def GK (d:Df):Int:=if 50<d.fElements.length then 2 else oq (fun _ e=>yJ e) none d.fElements
def At (p:Option Df) (d:Df):Int:=if CJ d.fTag=false then 5 else if As (p.map (·.fTag)) d.fTag=true then 8 else GK d
def rD (l:List Df):Int:=if 100<l.length then 2 else oq At none l
theorem uS (a b c:Int):gG a b c=some (decide (b<=a)&&decide (a<=c)):=by
 unfold gG gm;dsimp only
 simp only[aO,L8]
theorem KM (s:List UInt8) (k:Int) (hs:s.length<=1000):iJ s k=some (if k=1 then s.all (uG 32 126) else CL k s):=by
 unfold iJ gm;dsimp only
 unfold CL
 by_cases k4:k=4
 ·subst k4
  obtain⟨d,e,h1,h2⟩:=Eb s oM
  rw[h1];simp[h2]
 by_cases k5:k=5
 ·subst k5
  obtain⟨d,e,h1,h2⟩:=FV s oM
  rw[h1];simp[h2]
 rw[Ni k4,Ni k5]
 simp only[Mg,k4,k5,MZ]
 have key:=nL s (fun c=>(!decide (k=1)||uG 32 126 c)&&(!decide (k=2)||j4 c)&&(!decide (k=3)||gy c)) false (f:=fun i:Int=>bif decide (i<(s.length:Int)) then(b_ s i).bind fun e=>(ov (decide (k=1)) ((BE (decide ((e.toNat:Int)<32)) (some (decide (126<(e.toNat:Int))))).bind fun v=>some v)).bind fun v=>bif v then dy (dy (some false)) else(ov (decide (k=2)) ((ov (decide (65<=(e.toNat:Int))) (some (decide ((e.toNat:Int)<=90)))).bind fun v=>(BE v ((ov (decide (97<=(e.toNat:Int))) (some (decide ((e.toNat:Int)<=122)))).bind fun v=>some v)).bind fun v=>(BE v (some (decide ((e.toNat:Int)=32)))).bind fun v=>some !v)).bind fun v=>bif v then dy (dy (some false)) else(ov (decide (k=3)) ((BE (decide ((e.toNat:Int)<48)) (some (decide (57<(e.toNat:Int))))).bind fun v=>some v)).bind fun v=>bif v then dy (dy (some false)) else some (Sum.inl (IntKind.i64.wrap (i+1))) else dy (some (Sum.inl i))) (K:=fun _=>some true) (fun i e he=>by
   have hi:=bD he
   have a1:(decide ((e.toNat:Int)<32)||decide (126<(e.toNat:Int)))= !uG 32 126 e:=by
    unfold uG;rw[Mp];simp<;>omega
   have a2:(decide (65<=(e.toNat:Int))&&decide ((e.toNat:Int)<=90)||decide (97<=(e.toNat:Int))&&decide ((e.toNat:Int)<=122)||decide ((e.toNat:Int)=32))=j4 e:=by
    unfold j4;rw[Mp];simp<;>omega
   have a3:(decide ((e.toNat:Int)<48)||decide (57<(e.toNat:Int)))= !gy e:=by
    unfold gy;rw[Mp];simp<;>omega
   simp only[bp hi,Mf,aw,he,L8,bz,aO,bN i oM,a1,a2,a3]
   cases decide (k=1)<;>cases decide (k=2)<;>cases decide (k=3)<;>cases uG 32 126 e<;>cases j4 e<;>cases gy e<;>rfl) (by simp only[an,Mg];rfl)
 rw[key]
 by_cases k1:k=1
 ·subst k1
  have:s.all (fun c=>(!decide ((1:Int)=1)||uG 32 126 c)&&(!decide ((1:Int)=2)||j4 c)&&(!decide ((1:Int)=3)||gy c))=s.all (uG 32 126):=by
   congr 1;funext c;cases uG 32 126 c<;>rfl
  rw[this,NH rfl]
  cases s.all (uG 32 126)<;>rfl
 ·by_cases k2:k=2
  ·subst k2
   have:s.all (fun c=>(!decide ((2:Int)=1)||uG 32 126 c)&&(!decide ((2:Int)=2)||j4 c)&&(!decide ((2:Int)=3)||gy c))=s.all j4:=by
    congr 1;funext c;cases j4 c<;>rfl
   rw[this,NY k1,NH rfl]
   cases s.all j4<;>rfl
  ·by_cases k3:k=3
   ·subst k3
    have:s.all (fun c=>(!decide ((3:Int)=1)||uG 32 126 c)&&(!decide ((3:Int)=2)||j4 c)&&(!decide ((3:Int)=3)||gy c))=s.all gy:=by
     first|rfl|(congr 1;funext c;cases gy c<;>rfl)
    rw[this,NY k1,NY k2,NH rfl]
    cases s.all gy<;>rfl
   ·have:s.all (fun c=>(!decide (k=1)||uG 32 126 c)&&(!decide (k=2)||j4 c)&&(!decide (k=3)||gy c))=true:=by
     rw[MD];intro c _;simp[k1,k2,k3]
    rw[this,NY k1,NY k2,NY k3];rfl
theorem It {s:List UInt8} (h:s.all (uG 33 126)=true):s.all (uG 32 126)=true:=by
 rw[MD] at h⊢
 intro c hc
 have:=h c hc
 simp only[uG,L9,Ma] at this⊢
 exact⟨M5 oD this.1,this.2⟩
theorem D0 {α:Type} {l:List α} {i:Nat} {e:α} (he:l[i]?=some e) (h0:0<i):∃ p,l[i - 1]?=some p/\nj l i=some p:=by
 obtain⟨p,hp⟩:=eb (l:=l) (i:=i - 1) (by have:=bD he;omega)
 exact⟨p,hp,by unfold nj;rw[NY oM,hp]⟩
theorem D1 {l:List (List UInt8)} {i:Nat} {e:List UInt8} (he:l[i]?=some e) (hl:l.length<=1000):
  ov (decide (0<(i:Int))) ((b_ l (IntKind.i64.wrap ((i:Int) - 1))).bind fun e_1=>some (Op.bytesLess e e_1||decide (e=e_1)))=some (As (nj l i) e):=by
 by_cases h0:0<i
 ·obtain⟨p,hp,hq⟩:=D0 he h0
  have hi:=bD he
  have hw:IntKind.i64.wrap ((i:Int) - 1)=((i - 1:Nat):Int):=by rw[ge _ oM oM];omega
  have hd:decide (0<(i:Int))=true:=by simpa using h0
  rw[hw,aw,hp,hq,hd];rfl
 ·have hi:i=0:=by omega
  subst hi;rfl
theorem KN (d:ap) {i:Nat} {s:List UInt8} (hs:d.fCodes[i]?=some s) (hl:d.fCodes.length<=1000):fi d (i:Int)=some (uC d (nj d.fCodes i) s):=by
 unfold fi tU;dsimp only
 rw[aw,hs]
 simp only[L8,uS,bz]
 unfold uC Is
 by_cases c1:1<=s.length/\s.length<=20
 ·by_cases c2:d.fMin<=(s.length:Int)/\(s.length:Int)<=d.fMax
  ·have b1:(!(decide ((1:Int)<=((s.length:Nat):Int))&&decide (((s.length:Nat):Int)<=20))|| !(decide (d.fMin<=((s.length:Nat):Int))&&decide (((s.length:Nat):Int)<=d.fMax)))=false:=by simp;omega
   rw[b1,KM s d.fType oM,M9 c1,M9 c2]
   simp only[BE,Mg,L8,Mj]
   have fin:(dD (fun i:Int=>bif decide (i<(s.length:Int)) then(b_ s i).bind fun e_1=>(BE (decide ((e_1.toNat:Int)<33)) ((b_ s i).bind fun e=>some (decide (126<(e.toNat:Int))))).bind fun v=>bif v then dy (dy (some (3:Int))) else some (Sum.inl (IntKind.i64.wrap (i+1))) else dy (some (Sum.inl i))) 0).bind (dg fun _=>(ov (decide (0<(i:Int))) ((b_ d.fCodes (IntKind.i64.wrap ((i:Int) - 1))).bind fun e_1=>some (Op.bytesLess s e_1||decide (s=e_1)))).bind fun v=>bif v then some 8 else some 0)=some (if s.all (uG 33 126)=true then(if As (nj d.fCodes i) s=true then 8 else 0) else 3):=by
    rw[D1 hs hl]
    refine(nL s (uG 33 126) (3:Int) (fun i e he=> ?_) ?_).trans ?_
    ·have hi':=bD he
     have h1:(decide ((e.toNat:Int)<33)||decide (126<(e.toNat:Int)))= !uG 33 126 e:=by
      unfold uG;rw[Mp];simp<;>omega
     simp only[bp hi',Mf,aw,he,L8,bz,bN i oM,h1]
     cases uG 33 126 e<;>rfl
    ·simp only[an,Mg];rfl
    ·cases s.all (uG 33 126)<;>cases As (nj d.fCodes i) s<;>rfl
   by_cases k1:d.fType=1
   ·rw[NH k1]
    have ht:CL d.fType s=true:=by unfold CL;rw[k1];rfl
    rw[ht,Mj]
    cases ha:s.all (uG 32 126) with
    |true=>simp only[Mm,Mg];exact fin
    |false=>
     have:s.all (uG 33 126)=false:=by
      cases h:s.all (uG 33 126) with
      |false=>rfl
      |true=>rw[It h] at ha;cases ha
     rw[this];rfl
   ·rw[NY k1]
    cases CL d.fType s with
    |false=>rfl
    |true=>simp only[Mm,Mg,Mj];exact fin
  ·have b1:(!(decide ((1:Int)<=((s.length:Nat):Int))&&decide (((s.length:Nat):Int)<=20))|| !(decide (d.fMin<=((s.length:Nat):Int))&&decide (((s.length:Nat):Int)<=d.fMax)))=true:=by
    simp only[Mu,M2,M_,MA];omega
   rw[b1,Ni c2];simp[BE]
 ·have b1:(!(decide ((1:Int)<=((s.length:Nat):Int))&&decide (((s.length:Nat):Int)<=20))|| !(decide (d.fMin<=((s.length:Nat):Int))&&decide (((s.length:Nat):Int)<=d.fMax)))=true:=by
   simp only[Mu,M2,M_,MA];omega
  rw[b1,Ni c1];simp[BE]
theorem KO (d:ap):fj d=some (vt d):=by
 unfold fj tX;dsimp only
 simp only[uS,L8,bz,aO]
 unfold vt
 by_cases c1:1<=d.fType/\d.fType<=5
 ·rw[show(decide (1<=d.fType)&&decide (d.fType<=5))=true by simp[c1],NY (not_not_intro c1)]
  simp only[Mm,Mg]
  by_cases c2:¬ (1<=d.fMin/\d.fMin<=d.fMax)\/1000<d.fMax
  ·rw[NH c2,show(!(decide (1<=d.fMin)&&decide (d.fMin<=d.fMax))||decide (1000<d.fMax))=true by simp only[Mu,M2,M_,MA,Ma];omega];rfl
  ·rw[NY c2,show(!(decide (1<=d.fMin)&&decide (d.fMin<=d.fMax))||decide (1000<d.fMax))=false by simp only[ML,Bool.not_eq_false',L9,MA,Ma];omega]
   simp only[Mg]
   by_cases c3:d.fType=5/\(8<d.fMin\/d.fMax<8)
   ·rw[NH c3,show(decide (d.fType=5)&&(decide (8<d.fMin)||decide (d.fMax<8)))=true by simp[c3.1];exact c3.2];rfl
   ·rw[NY c3,show(decide (d.fType=5)&&(decide (8<d.fMin)||decide (d.fMax<8)))=false by simp only[M_,MA,ML];omega]
    simp only[Mg]
    by_cases c4:50<d.fCodes.length
    ·rw[NH c4,show decide (50<((d.fCodes.length:Nat):Int))=true by simp;omega];rfl
    ·rw[NY c4,show decide (50<((d.fCodes.length:Nat):Int))=false by simp;omega]
     simp only[Mg]
     refine(j3 d.fCodes (uC d) (fun n=>n) (fun i e he=> ?_) ?_).trans ?_
     ·have hi':=bD he
      simp only[bp hi',Mf,KN d he oM,L8,bN i oM]
      by_cases hz:uC d (nj d.fCodes i) e=0
      ·rw[NH hz,M9 hz];rfl
      ·rw[NY hz,Ni hz];rfl
     ·simp only[an,Mg];rfl
     ·split
      ·rename_i h;rw[h]
      ·rfl
 ·rw[show(decide (1<=d.fType)&&decide (d.fType<=5))=false by simp only[M_,MA];omega,NH c1];rfl
theorem LD (d:Df):fO d=some (GK d):=by
 unfold fO tY;dsimp only
 unfold GK
 by_cases c4:50<d.fElements.length
 ·rw[NH c4,show decide (50<((d.fElements.length:Nat):Int))=true by simp;omega];rfl
 ·rw[NY c4,show decide (50<((d.fElements.length:Nat):Int))=false by simp;omega]
  simp only[Mg]
  refine(j3 d.fElements (fun _ e=>yJ e) (fun n=>n) (fun i e he=> ?_) ?_).trans ?_
  ·have hi':=bD he
   simp only[bp hi',Mf,aw,he,L8,uS,bN i oM,DY]
   unfold yJ
   by_cases d1:1<=e.fMost/\e.fMost<=20
   ·rw[show(decide (1<=e.fMost)&&decide (e.fMost<=20))=true by simp[d1]]
    simp only[Mm,Mg,d1,and_self,not_true_eq_false,MZ]
    by_cases d2:e.fParts=[]
    ·simp only[d2,Nr];rfl
    ·simp only[d2,MZ,NB,Mg]
     by_cases d3:20<e.fParts.length
     ·simp only[d3,Nr]
      rw[show decide (20<((e.fParts.length:Nat):Int))=true by simp;omega];rfl
     ·simp only[d3,MZ]
      rw[show decide (20<((e.fParts.length:Nat):Int))=false by simp;omega]
      simp only[Mg]
      refine(j3 e.fParts (fun _ p=>vt p) (fun n=> .inr (.inr n)) (fun i e he=> ?_) ?_).trans ?_
      ·have hi':=bD he
       simp only[bp hi',Mf,aw,he,L8,KO,bN i oM]
       by_cases hz:vt e=0
       ·simp only[hz,Nr,NF,Mm,Mg]
       ·simp only[hz,MZ,NB,Mo,Mf];rfl
      ·simp only[an,Mg];rfl
      ·rfl
   ·rw[show(decide (1<=e.fMost)&&decide (e.fMost<=20))=false by simp only[M_,MA];omega]
    simp only[d1,not_false_eq_true,Nr];rfl
  ·simp only[an,Mg];rfl
  ·split
   ·rename_i h;rw[h]
   ·rfl
theorem BR {l:List Df} {i:Nat} {e:Df} (he:l[i]?=some e) (hl:l.length<=1000):
  ov (decide (0<(i:Int))) ((b_ l (i:Int)).bind fun e=>(b_ l (IntKind.i64.wrap ((i:Int) - 1))).bind fun e_1=>some (Op.bytesLess e.fTag e_1.fTag||decide (e.fTag=e_1.fTag)))=some (As ((nj l i).map (·.fTag)) e.fTag):=by
 rw[aw,he]
 by_cases h0:0<i
 ·obtain⟨p,hp,hq⟩:=D0 he h0
  have hi:=bD he
  have hw:IntKind.i64.wrap ((i:Int) - 1)=((i - 1:Nat):Int):=by rw[ge _ oM oM];omega
  have hd:decide (0<(i:Int))=true:=by simpa using h0
  rw[hw,aw,hp,hq,hd];rfl
 ·have hi:i=0:=by omega
  subst hi;rfl
theorem KP (l:List Df) (hl:∀ d∈l,d.fTag.length<=MX):fk l=some (rD l):=by
 unfold fk tZ;dsimp only
 unfold rD
 by_cases c4:100<l.length
 ·rw[NH c4,show decide (100<((l.length:Nat):Int))=true by simp;omega];rfl
 ·rw[NY c4,show decide (100<((l.length:Nat):Int))=false by simp;omega]
  simp only[Mg]
  refine(j3 l At (fun n=>n) (fun i e he=> ?_) ?_).trans ?_
  ·have hi':=bD he
   have hm:=Mb he
   have hp:=BR he oM
   simp only[bp hi',Mf]
   rw[hp]
   simp only[aw,he,L8,JX _ (hl e hm),LD,bN i oM]
   unfold At
   cases CJ e.fTag with
   |false=>rfl
   |true=>
    simp only[Mm,Mg,NC,MZ]
    cases As ((nj l i).map (·.fTag)) e.fTag with
    |true=>rfl
    |false=>
     simp only[Mg,My,MZ]
     by_cases hz:GK e=0
     ·rw[NH hz,M9 hz];rfl
     ·rw[NY hz,Ni hz];rfl
  ·simp only[an,Mg];rfl
  ·split
   ·rename_i h;rw[h]
   ·rfl
def Ao (b:UInt8):Bool:=decide (97<=(b.toNat:Int))&&decide ((b.toNat:Int)<=122)
def sK (b:UInt8):Bool:=Ao b||(decide ((b.toNat:Int)=45)||(decide (48<=(b.toNat:Int))&&decide ((b.toNat:Int)<=57)))
def uP:List UInt8:=[97,98,99,100,101,102,103,104,105,106,107,108,109,110,111,112,113,114,115,116,117,118,119,120,121,122,48,49,50,51,52,53,54,55,56,57,45]
theorem GG:(List.range 256).all (fun n=>uP.contains (UInt8.ofNat n)==sK (UInt8.ofNat n))=true:=by decide+kernel
theorem Il (b:UInt8):uP.contains b=sK b:=by
 have:=MD.1 GG b.toNat (Nb.2 b.toNat_lt)
 have hb:UInt8.ofNat b.toNat=b:=by simp
 rw[hb] at this
 simpa using this
theorem GH (l:List UInt8):decide (Lib.trimS l uP=[])=l.all sK:=by
 rw[Mp,Ma,An,MD]
 simp only[Il]
def dN:List UInt8->Bool
 |[]=>false
 |b::l=>decide (l.length<=39)&&Ao b&&l.all sK
theorem EW (l:List UInt8) (hl:l.length<=MX):sk l=some (dN l):=by
 have ht:dM l uP=some (Lib.trimS l uP):=by
  unfold dM
  rw[NH ⟨hl,by decide,by decide⟩]
 have hu:([97,98,99,100,101,102,103,104,105,106,107,108,109,110,111,112,113,114,115,116,117,118,119,120,121,122,48,49,50,51,52,53,54,55,56,57,45]:List UInt8)=uP:=rfl
 unfold sk a_;dsimp only
 rw[hu]
 cases l with
 |nil=>rfl
 |cons b l=>
  have hg:b_ (b::l) 0=some b:=rfl
  simp only[hg,L8,bz,ht,GH,dN]
  have h1:decide (((b::l).length:Int)<1)=false:=by simp only[Mv];apply Ni;omega
  have h2:decide (40<((b::l).length:Int))= !decide (l.length<=39):=by simp only[Mv];rw[Mp];simp<;>omega
  have h3:(decide ((b.toNat:Int)<97)||decide (122<(b.toNat:Int)))= !Ao b:=by unfold Ao;rw[Mp];simp
  rw[h1,h2,MB,Bool.or_assoc,h3]
  cases hb:Ao b with
  |false=>simp
  |true=>cases decide (l.length<=39)<;>simp[sK,hb]
def xe (i:Nat) (b:UInt8):Bool:=Ao b||(decide (i≠0)&&sK b)
theorem EX (l:List UInt8) (hl:l.length<=MX):gL l=some (dN l):=by
 unfold MX at hl
 unfold gL a_;dsimp only
 generalize hf:(fun s:Int=>_)=f
 have key:=BQ (f:=f) l (fun i (_:Unit)=>(i:Int)) (fun i _ e=>if xe i e=true then some (.inl ()) else some (.inr (.inr false))) (fun _=>some (Sum.inl (l.length:Int))) (fun i e s he=>by
  subst hf
  have hi:=bD he
  simp only[bp hi,Mf,aw,he,L8,aO,bz,bN i oM]
  have h0:decide ((i:Int)=0)=decide (i=0):=by congr 1;apply propext;omega
  have h1:(!(decide (97<=(e.toNat:Int))&&decide ((e.toNat:Int)<=122))&&(decide ((i:Int)=0)||(!decide ((e.toNat:Int)=45)&& !(decide (48<=(e.toNat:Int))&&decide ((e.toNat:Int)<=57)))))= !xe i e:=by
   rw[h0]
   unfold xe sK Ao
   cases decide (97<=(e.toNat:Int))<;>cases decide ((e.toNat:Int)<=122)<;>by_cases hi0:i=0<;>simp[hi0]
  rw[h1]
  cases xe i e<;>rfl) (fun s=>by
  subst hf
  simp only[an,Mg];rfl) ()
 rw[show((0:Nat):Int)=0 from rfl] at key
 rw[key]
 have h2:∀ (t:List UInt8) (i:Nat),0<i->Ap (fun i (_:Unit) e=>if xe i e=true then some (.inl ()) else some (.inr (.inr false))) (fun _=>some (Sum.inl (l.length:Int))) t i ()=if t.all sK=true then some (.inl (l.length:Int)) else some (.inr false):=by
  intro t
  induction t with
  |nil=>intro i _;rfl
  |cons b t ih=>
   intro i hi
   simp only[Ap]
   have:xe i b=sK b:=by
    unfold xe
    rw[M9 (show i≠0 by omega),Mj]
    unfold sK
    cases Ao b<;>simp
   rw[this]
   cases hb:sK b with
   |true=>simp only[Nr,ih (i+1) oM,NL,hb,Mj]
   |false=>simp[hb]
 cases l with
 |nil=>rfl
 |cons b l=>
  simp only[Ap]
  have h3:xe 0 b=Ao b:=by unfold xe;cases Ao b<;>simp
  have h4:decide (((b::l).length:Int)<=40)=decide (l.length<=39):=by simp only[Mv];rw[Mp];simp;omega
  rw[h3]
  cases hb:Ao b with
  |false=>simp[dg,hb,dN]
  |true=>
   simp only[Nr]
   rw[h2 l 1 oM]
   cases hl:l.all sK with
   |true=>simp[dg,hb,hl,dN,aO];try omega
   |false=>simp[dg,hb,hl,dN]
def A3 {α S A:Type} (g:S->α->S⊕A) (fin:S->A):List α->S->A
 |[],s=>fin s
 |e::l,s=>match g s e with
  | .inl s'=>A3 g fin l s'
  | .inr a=>a
theorem D2 {α S T A:Type} (l:List α) (mk:Nat->S->T) (g:S->α->S⊕A) (fin:S->A) (I:S->Prop) {f:T->Option (T⊕A)}
  (hb:∀ (i:Nat) (e:α) (s:S),l[i]?=some e->I s->f (mk i s)=some (match g s e with| .inl s'=> .inl (mk (i+1) s')| .inr a=> .inr a))
  (hi:∀ (e:α) (s s':S),e∈l->I s->g s e= .inl s'->I s') (he:∀ s,I s->f (mk l.length s)=some (.inr (fin s))) (s:S) (h0:I s):dD f (mk 0 s)=some (A3 g fin l s):=by
 have:∀ (t:List α) (i:Nat) (s:S),l.drop i=t->i<=l.length->I s->dD f (mk i s)=some (A3 g fin t s):=by
  intro t
  induction t with
  |nil=>
   intro i s hd hle hs
   have:=xf hd hle
   subst this
   rw[ck,he s hs]
   rfl
  |cons e t ih=>
   intro i s hd hle hs
   obtain⟨h1,h2,h3⟩:=BP hd
   rw[ck,hb i e s h1 hs]
   simp only[A3]
   cases hg:g s e with
   |inr a=>rfl
   |inl s'=>exact ih (i+1) s' h3 h2 (hi e s s' (Mb h1) hs hg)
 exact this l 0 s rfl (ME _) h0
def j5 {α:Type} (g:Int->α->Int×Int):List α->Int->Int×Int
 |[],many=>(0,many)
 |b::l,many=>if(g many b).1=0 then j5 g l (g many b).2 else g many b
def sZ (D:List UInt8->Bool) (rec:List Sl->Int->Int×Int) (deep many:Int) (x:Sl):Int×Int:=
 if 300<many+1\/6<deep then(2,many+1)
 else if(mj x||pr x)=false then(3,many+1)
 else if x.fName≠[]/\dN x.fName=false then(5,many+1)
 else if x.fName=[]/\D x.fTag=false then(9,many+1)
 else if¬ (0<=x.fMin/\x.fMin<=x.fMax)\/¬ (1<=x.fMax/\x.fMax<=1000) then(1,many+1)
 else if x.fName=[] then(0,many+1)
 else rec x.fItems (many+1)
def LE (D:List UInt8->Bool) (rec:List Sl->Int->Int×Int) (deep:Int) (l:List Sl) (many:Int):Int×Int:=
 if l=[] then(9,many) else if 50<l.length then(2,many) else j5 (sZ D rec deep) l many
def qS (D:List UInt8->Bool):Nat->List Sl->Int->Int->Int×Int
 |0,_,_,many=>(9,many)
 |k+1,l,deep,many=>LE D (fun it m=>qS D k it (deep+1) m) deep l many
theorem FH {α:Type} {g:Int->α->Int×Int} (hg:∀ many b,0<=many->(g many b).1=0->many<=(g many b).2/\(g many b).2<=300):∀ {l:List α} {many:Int},0<=many->many<=300->(j5 g l many).1=0->many<=(j5 g l many).2/\(j5 g l many).2<=300
 |[],many,_,h1,_=>⟨Na _,h1⟩
 |b::l,many,h0,h1,h=>by
  unfold j5 at h⊢
  by_cases hb:(g many b).1=0
  ·rw[NH hb] at h⊢
   obtain⟨k1,k2⟩:=hg many b h0 hb
   obtain⟨q1,q2⟩:=FH hg oM k2 h
   exact⟨by omega,q2⟩
  ·rw[NY hb] at h;exact absurd h hb
structure K6 (D:List UInt8->Bool) (x:Sl):Prop where
 ok:GJ x
 name:x.fName≠[]->dN x.fName=true
 tag:x.fName=[]->D x.fTag=true
 min:0<=x.fMin/\x.fMin<=x.fMax
 max:1<=x.fMax/\x.fMax<=1000
theorem FI {D:List UInt8->Bool} {rec:List Sl->Int->Int×Int} {deep many:Int} {x:Sl} (h:(sZ D rec deep many x).1=0):
  many+1<=300/\deep<=6/\K6 D x/\((x.fName=[]/\sZ D rec deep many x=(0,many+1))\/(x.fName≠[]/\sZ D rec deep many x=rec x.fItems (many+1))):=by
 unfold sZ at h⊢
 split at h
 ·cases h
 rename_i c1
 rw[NY c1]
 split at h
 ·cases h
 rename_i c2
 rw[NY c2]
 split at h
 ·cases h
 rename_i c3
 rw[NY c3]
 split at h
 ·cases h
 rename_i c4
 rw[NY c4]
 split at h
 ·cases h
 rename_i c5
 rw[NY c5]
 have hI:K6 D x:=by
  refine⟨?_,fun hn=> ?_,fun hn=> ?_,by omega,by omega⟩
  ·have:(mj x||pr x)=true:=by
    cases hv:(mj x||pr x) with
    |true=>rfl
    |false=>exact absurd hv c2
   exact(Mu _ _).mp this
  ·cases hv:dN x.fName with
   |true=>rfl
   |false=>exact absurd ⟨hn,hv⟩ c3
  ·cases hv:D x.fTag with
   |true=>rfl
   |false=>exact absurd ⟨hn,hv⟩ c4
 refine⟨by omega,by omega,hI, ?_⟩
 by_cases hn:x.fName=[]
 ·rw[NH hn];exact .inl ⟨hn,rfl⟩
 ·rw[NY hn];exact .inr ⟨hn,rfl⟩
theorem uD (D:List UInt8->Bool):∀ (k:Nat) {l:List Sl} {deep many:Int},0<=many->many<=300->(qS D k l deep many).1=0->many<=(qS D k l deep many).2/\(qS D k l deep many).2<=300
 |0,_,_,_,_,_,h=>by cases h
 |k+1,l,deep,many,h0,h1,h=>by
  unfold qS LE at h⊢
  split at h
  ·cases h
  rename_i c1
  rw[NY c1]
  split at h
  ·cases h
  rename_i c2
  rw[NY c2]
  refine FH (fun m x hm hx=> ?_) h0 h1 h
  obtain⟨q1, -, -,q4⟩:=FI hx
  rcases q4 with⟨_,q⟩|⟨_,q⟩
  ·rw[q];exact⟨by simp only;omega,by simp only;omega⟩
  ·rw[q] at hx⊢
   obtain⟨k1,k2⟩:=uD D k oM oM hx
   exact⟨by omega,k2⟩
def AD (D:List UInt8->Bool):Nat->List Sl->Prop
 |0,_=>False
 |k+1,l=>l≠[]/\l.length<=50/\∀ x∈l,K6 D x/\(x.fName≠[]->AD D k x.fItems)
def lK:Nat->List Sl->Nat
 |0,_=>0
 |k+1,l=>(l.map fun x=>if x.fName=[] then 1 else 1+lK k x.fItems).sum
theorem uE (D:List UInt8->Bool):∀ (k:Nat) (l:List Sl) (deep many:Int),(qS D k l deep many).1=0->AD D k l/\(qS D k l deep many).2=many+lK k l
 |0,_,_,_,h=>by cases h
 |k+1,l,deep,many,h=>by
  unfold qS LE at h⊢
  split at h
  ·cases h
  rename_i c1
  rw[NY c1]
  split at h
  ·cases h
  rename_i c2
  rw[NY c2]
  have key:∀ (l:List Sl) (many:Int),(j5 (sZ D (fun it m=>qS D k it (deep+1) m) deep) l many).1=0->(∀ x∈l,K6 D x/\(x.fName≠[]->AD D k x.fItems))/\(j5 (sZ D (fun it m=>qS D k it (deep+1) m) deep) l many).2=many+((l.map fun x=>if x.fName=[] then 1 else 1+lK k x.fItems).sum:Nat):=by
   intro l
   induction l with
   |nil=>intro many _;exact⟨(fun x hx=>by cases hx),by simp[j5]⟩
   |cons x l ih=>
    intro many h
    unfold j5 at h⊢
    by_cases hb:(sZ D (fun it m=>qS D k it (deep+1) m) deep many x).1=0
    ·rw[NH hb] at h⊢
     obtain⟨-, -,q3,q4⟩:=FI hb
     obtain⟨k1,k2⟩:=ih _ h
     have hone:(x.fName≠[]->AD D k x.fItems)/\(sZ D (fun it m=>qS D k it (deep+1) m) deep many x).2=many+((if x.fName=[] then 1 else 1+lK k x.fItems:Nat):Int):=by
      rcases q4 with⟨hn,q⟩|⟨hn,q⟩
      ·rw[q,NH hn];exact⟨fun h=>absurd hn h,rfl⟩
      ·rw[q] at hb⊢
       obtain⟨p1,p2⟩:=uE D k x.fItems (deep+1) (many+1) hb
       rw[NY hn]
       exact⟨fun _=>p1,by rw[p2];omega⟩
     refine⟨fun y hy=> ?_, ?_⟩
     ·rcases Ml.1 hy with rfl|hy
      ·exact⟨q3,hone.1⟩
      ·exact k1 y hy
     ·rw[k2,hone.2]
      simp only[Mk,List.sum_cons]
      omega
    ·rw[NY hb] at h;exact absurd h hb
  obtain⟨k1,k2⟩:=key l many h
  exact⟨⟨c1,by omega,k1⟩,k2⟩
theorem AD.len {D:List UInt8->Bool} {k:Nat} {l:List Sl} (h:AD D k l):l.length<=50:=by
 cases k with
 |zero=>exact h.elim
 |succ k=>exact h.2.1
theorem AD.it {D:List UInt8->Bool} {k:Nat} {l:List Sl} (h:AD D k l) {x:Sl} (hx:x∈l):K6 D x/\(x.fName≠[]->AD D (k - 1) x.fItems):=by
 cases k with
 |zero=>exact h.elim
 |succ k=>exact h.2.2 x hx
def wi (rec:List Sl->List (List UInt8)) (x:Sl):List (List UInt8):=if x.fName=[] then[] else x.fName::rec x.fItems
def sL:Nat->List Sl->List (List UInt8)
 |0,_=>[]
 |k+1,l=>l.flatMap (wi (sL k))
theorem EZ:∀ (k:Nat) (l:List Sl),(sL k l).length<=lK k l
 |0,_=>Me _
 |k+1,l=>by
  unfold sL lK
  induction l with
  |nil=>simp
  |cons x l ih=>
   simp only[List.flatMap_cons,Mh,Mk,List.sum_cons]
   have h1:(wi (sL k) x).length<=if x.fName=[] then 1 else 1+lK k x.fItems:=by
    unfold wi
    split
    ·simp
    ·have:=EZ k x.fItems;simp;omega
   omega
def ik:List (List UInt8)->List (List UInt8)->Bool
 |_,[]=>false
 |seen,t::l=>seen.contains t||ik (seen++[t]) l
def Au (S:List UInt8->Bool) (g:Bool):Nat->List (List UInt8)->Bool
 |_,[]=>false
 |i,t::l=>(!(g&&decide (i=0))&&S t)||Au S g (i+1) l
def GT (rec:List Sl->(List UInt8->Bool)->Bool) (S:List UInt8->Bool):List Sl->Bool
 |[]=>false
 |x::l=>(!decide (x.fName=[])&&rec x.fItems (fun t=>S t||((x::l).map du).contains t))||GT rec S l
def AE:Nat->List Sl->(List UInt8->Bool)->Bool->Bool
 |0,_,_,_=>false
 |k+1,l,S,g=>Au S g 0 (l.map du)||ik [] (l.map du)||GT (fun it S'=>AE k it S' true) S l
theorem kc {α:Type} {l:List α} {i:Nat} {e:α} (h:l[i]?=some e):l.drop i=e::l.drop (i+1):=by
 have hi:=bD h
 rw[Np hi]
 rw[Mi hi] at h
 simp only[L7] at h;rw[h]
theorem D3 {α R:Type} {g:Int->α->Int×Int} {ret:Int×Int->R}:∀ {l:List α} {many:Int} {fin:Int->(Int×Int)⊕R},
  A3 (fun s e=>if(g s e).1=0 then(.inl (g s e).2:Int⊕((Int×Int)⊕R)) else .inr (.inr (ret (g s e)))) fin l many=if(j5 g l many).1=0 then fin (j5 g l many).2 else .inr (ret (j5 g l many))
 |[],many,fin=>by simp[A3,j5]
 |b::l,many,fin=>by
  unfold A3 j5
  by_cases hb:(g many b).1=0
  ·simp only[hb,Nr];exact D3
  ·simp only[hb,MZ]
theorem D4 (D:List UInt8->Bool) (rec:List Sl->Int->Int×Int) (deep many:Int) (x:Sl):
  (300<many+1\/6<deep)/\sZ D rec deep many x=(2,many+1)
  \/¬ (300<many+1\/6<deep)/\(mj x||pr x)=false/\sZ D rec deep many x=(3,many+1)
  \/¬ (300<many+1\/6<deep)/\(mj x||pr x)=true/\(x.fName≠[]/\dN x.fName=false)/\sZ D rec deep many x=(5,many+1)
  \/¬ (300<many+1\/6<deep)/\(mj x||pr x)=true/\¬ (x.fName≠[]/\dN x.fName=false)/\(x.fName=[]/\D x.fTag=false)/\sZ D rec deep many x=(9,many+1)
  \/¬ (300<many+1\/6<deep)/\(mj x||pr x)=true/\¬ (x.fName≠[]/\dN x.fName=false)/\¬ (x.fName=[]/\D x.fTag=false)/\(¬ (0<=x.fMin/\x.fMin<=x.fMax)\/¬ (1<=x.fMax/\x.fMax<=1000))/\sZ D rec deep many x=(1,many+1)
  \/¬ (300<many+1\/6<deep)/\(mj x||pr x)=true/\¬ (x.fName≠[]/\dN x.fName=false)/\¬ (x.fName=[]/\D x.fTag=false)/\¬ (¬ (0<=x.fMin/\x.fMin<=x.fMax)\/¬ (1<=x.fMax/\x.fMax<=1000))/\sZ D rec deep many x=if x.fName=[] then(0,many+1) else rec x.fItems (many+1):=by
 unfold sZ
 by_cases c1:300<many+1\/6<deep
 ·exact .inl ⟨c1,NH c1⟩
 refine .inr ?_
 rw[NY c1]
 cases c2:(mj x||pr x) with
 |false=>exact .inl ⟨c1,rfl,rfl⟩
 |true=>
  refine .inr ?_
  simp only[NC,MZ]
  by_cases c3:x.fName≠[]/\dN x.fName=false
  ·exact .inl ⟨c1,trivial,c3,NH c3⟩
  refine .inr ?_
  rw[NY c3]
  by_cases c4:x.fName=[]/\D x.fTag=false
  ·exact .inl ⟨c1,trivial,c3,c4,NH c4⟩
  refine .inr ?_
  rw[NY c4]
  by_cases c5:¬ (0<=x.fMin/\x.fMin<=x.fMax)\/¬ (1<=x.fMax/\x.fMax<=1000)
  ·exact .inl ⟨c1,trivial,c3,c4,c5,NH c5⟩
  ·exact .inr ⟨c1,trivial,c3,c4,c5,NY c5⟩
theorem FJ (s:ae) (hs:s.fDefs.length<=1000):∀ (k:Nat) (deep:Nat) (l:List Sl) (many:Int) (fu:Nat),deep<=7->8<=k+deep->k+1<=fu->0<=many->many<=300->(∀ b∈l,CT b)->
  cZ fu s l (deep:Int) many=some ((qS (aq s.fDefs) k l deep many).2,(qS (aq s.fDefs) k l deep many).1)
 |0,deep,_,_,_,h1,h2,_,_,_,_=>by omega
 |k+1,deep,l,many,0,_,_,h3,_,_,_=>by omega
 |k+1,deep,l,many,fu+1,h1,h2,h3,h4,h5,hl=>by
  rw[md];unfold tV;dsimp only;simp only[mc]
  unfold qS LE
  rw[DY]
  by_cases c0:l=[]
  ·rw[M9 c0,NH c0];rfl
  rw[Ni c0,NY c0]
  simp only[Mg]
  by_cases c50:50<l.length
  ·rw[NH c50,show decide (50<((l.length:Nat):Int))=true by simp;omega];rfl
  rw[NY c50,show decide (50<((l.length:Nat):Int))=false by simp;omega]
  simp only[Mg]
  have hfb:∀ m b,0<=m->(sZ (aq s.fDefs) (fun it m=>qS (aq s.fDefs) k it ((deep:Int)+1) m) deep m b).1=0->m<=(sZ (aq s.fDefs) (fun it m=>qS (aq s.fDefs) k it ((deep:Int)+1) m) deep m b).2/\(sZ (aq s.fDefs) (fun it m=>qS (aq s.fDefs) k it ((deep:Int)+1) m) deep m b).2<=300:=fun m b hm hx=>by
   obtain⟨q1, -, -,q4⟩:=FI hx
   rcases q4 with⟨_,q⟩|⟨_,q⟩
   ·rw[q];exact⟨by simp only;omega,by simp only;omega⟩
   ·rw[q] at hx⊢
    obtain⟨k1,k2⟩:=uD _ k oM oM hx
    exact⟨by omega,k2⟩
  refine dj (D2 l (fun i (s:Int)=>(s,(i:Int))) (fun m e=>if(sZ (aq s.fDefs) (fun it m=>qS (aq s.fDefs) k it ((deep:Int)+1) m) deep m e).1=0 then .inl (sZ (aq s.fDefs) (fun it m=>qS (aq s.fDefs) k it ((deep:Int)+1) m) deep m e).2 else .inr (.inr ((sZ (aq s.fDefs) (fun it m=>qS (aq s.fDefs) k it ((deep:Int)+1) m) deep m e).2,(sZ (aq s.fDefs) (fun it m=>qS (aq s.fDefs) k it ((deep:Int)+1) m) deep m e).1)))
   (fun m=> .inl (m,(l.length:Int))) (fun m=>0<=m/\m<=300) (fun i e m he hm=> ?_) (fun e m m' he hm hg=> ?_) (fun m hm=> ?_) many ⟨h4,h5⟩) ?_
  ·have hi:=bD he
   have hmem:=Mb he
   have hb:=hl e hmem
   simp only[bp hi,Mf,aw,he,L8,bN i oM,dB,bz]
   rw[ge (m+1) oM oM,JZ e hb]
   simp only[L8,LC e hb,aO,EX _ hb.name,uS,bz]
   obtain⟨n,hn,hnd⟩:=Jv s e.fTag hs
   have ha:ov (decide (e.fName=[])) ((bK s e.fTag).bind fun x=>some (decide (x<0)))=some (decide (e.fName=[])&& !aq s.fDefs e.fTag):=by
    rw[hn];simp only[L8,aO,hnd]
   rw[ha]
   simp only[L8]
   rcases D4 (aq s.fDefs) (fun it m=>qS (aq s.fDefs) k it ((deep:Int)+1) m) deep m e with⟨c1,q⟩|⟨c1,c2,q⟩|⟨c1,c2,c3,q⟩|⟨c1,c2,c3,c4,q⟩|⟨c1,c2,c3,c4,c5,q⟩|⟨c1,c2,c3,c4,c5,q⟩
   ·rw[q,show(decide (300<m+1)||decide (6<(deep:Int)))=true by simpa using c1];rfl
   ·rw[q,show(decide (300<m+1)||decide (6<(deep:Int)))=false by simpa using c1]
    have:(!mj e&& !pr e)=true:=by simpa using c2
    rw[this];rfl
   ·have h2:(!mj e&& !pr e)=false:=by
     cases hv:mj e with
     |true=>rfl
     |false=>rw[hv] at c2;simp only[MB] at c2;rw[c2];rfl
    rw[q,show(decide (300<m+1)||decide (6<(deep:Int)))=false by simpa using c1,h2,Ni c3.1,c3.2];rfl
   ·have h2:(!mj e&& !pr e)=false:=by
     cases hv:mj e with
     |true=>rfl
     |false=>rw[hv] at c2;simp only[MB] at c2;rw[c2];rfl
    rw[q,show(decide (300<m+1)||decide (6<(deep:Int)))=false by simpa using c1,h2,M9 c4.1,c4.2];rfl
   ·have h2:(!mj e&& !pr e)=false:=by
     cases hv:mj e with
     |true=>rfl
     |false=>rw[hv] at c2;simp only[MB] at c2;rw[c2];rfl
    have h3:(!decide (e.fName=[])&& !dN e.fName)=false:=by
     by_cases hv:e.fName=[]
     ·rw[M9 hv];rfl
     ·have:dN e.fName=true:=by
       cases hq:dN e.fName with
       |true=>rfl
       |false=>exact absurd ⟨hv,hq⟩ c3
      rw[this];simp
    have h4':(decide (e.fName=[])&& !aq s.fDefs e.fTag)=false:=by
     by_cases hv:e.fName=[]
     ·have:aq s.fDefs e.fTag=true:=by
       cases hq:aq s.fDefs e.fTag with
       |true=>rfl
       |false=>exact absurd ⟨hv,hq⟩ c4
      rw[this];simp
     ·rw[Ni hv];rfl
    have h5':(!(decide (0<=e.fMin)&&decide (e.fMin<=e.fMax))|| !(decide (1<=e.fMax)&&decide (e.fMax<=1000)))=true:=by
     simp only[Mu,M2,M_,MA];omega
    rw[q,show(decide (300<m+1)||decide (6<(deep:Int)))=false by simpa using c1,h2,h3,h4',h5'];rfl
   ·have h2:(!mj e&& !pr e)=false:=by
     cases hv:mj e with
     |true=>rfl
     |false=>rw[hv] at c2;simp only[MB] at c2;rw[c2];rfl
    have h3:(!decide (e.fName=[])&& !dN e.fName)=false:=by
     by_cases hv:e.fName=[]
     ·rw[M9 hv];rfl
     ·have:dN e.fName=true:=by
       cases hq:dN e.fName with
       |true=>rfl
       |false=>exact absurd ⟨hv,hq⟩ c3
      rw[this];simp
    have h4':(decide (e.fName=[])&& !aq s.fDefs e.fTag)=false:=by
     by_cases hv:e.fName=[]
     ·have:aq s.fDefs e.fTag=true:=by
       cases hq:aq s.fDefs e.fTag with
       |true=>rfl
       |false=>exact absurd ⟨hv,hq⟩ c4
      rw[this];simp
     ·rw[Ni hv];rfl
    have h5':(!(decide (0<=e.fMin)&&decide (e.fMin<=e.fMax))|| !(decide (1<=e.fMax)&&decide (e.fMax<=1000)))=false:=by
     simp only[ML,Bool.not_eq_false',L9,Ma];omega
    rw[q,show(decide (300<m+1)||decide (6<(deep:Int)))=false by simpa using c1,h2,h3,h4',h5']
    simp only[Mg]
    by_cases hv:e.fName=[]
    ·rw[M9 hv,NH hv];rfl
    ·rw[Ni hv,NY hv,ge ((deep:Int)+1) oM oM]
     have hrec:=FJ s hs k (deep+1) e.fItems (m+1) fu oM oM oM oM oM hb.items
     rw[show((deep+1:Nat):Int)=(deep:Int)+1 by omega] at hrec
     simp only[Mg]
     rw[hrec]
     simp only[L8]
     by_cases hz:(qS (aq s.fDefs) k e.fItems ((deep:Int)+1) (m+1)).1=0
     ·rw[NH hz,M9 hz];rfl
     ·rw[NY hz,Ni hz];rfl
  ·by_cases hf:(sZ (aq s.fDefs) (fun it m=>qS (aq s.fDefs) k it ((deep:Int)+1) m) deep m e).1=0
   ·rw[NH hf] at hg
    cases hg
    have:=hfb m e hm.1 hf
    exact⟨by omega,this.2⟩
   ·rw[NY hf] at hg;cases hg
  ·simp only[an,Mg];rfl
  ·rw[D3 (R:=Int×Int) (ret:=fun r=>(r.2,r.1))]
   by_cases hf:(j5 (sZ (aq s.fDefs) (fun it m=>qS (aq s.fDefs) k it ((deep:Int)+1) m) deep) l many).1=0
   ·rw[NH hf]
    show some (_,0)=_
    rw[hf]
   ·rw[NY hf];rfl
theorem Iu {α β:Type} (g:α->List β) (l:List α) (i:Nat):((l.take i).flatMap g).length<=(l.flatMap g).length:=by
 conv=>rhs;rw[<-MM i l]
 rw[List.flatMap_append,Mh];omega
theorem CM {l:List Sl} {k:Nat} {x:Sl} (hx:x∈l) (hn:x.fName≠[]):lK k x.fItems<=lK (k+1) l:=by
 unfold lK
 induction l with
 |nil=>cases hx
 |cons y l ih=>
  simp only[Mk,List.sum_cons]
  rcases Ml.1 hx with rfl|hx
  ·rw[NY hn]
   cases k with
   |zero=>simp[lK]
   |succ k=>show lK (k+1) x.fItems<=_;omega
  ·have:=ih hx
   cases k with
   |zero=>simp[lK]
   |succ k=>show lK (k+1) x.fItems<=_;have h2:lK (k+1) x.fItems<=_:=this;omega
theorem FK {D:List UInt8->Bool}:∀ (k:Nat) (l:List Sl) (fu:Nat),AD D k l->lK k l<=300->k<=fu->eJ fu l=some (sL k l)
 |0,_,_,h,_,_=>h.elim
 |k+1,l,0,_,_,h=>by omega
 |k+1,l,fu+1,h,hc,hf=>by
  rw[oO];unfold tT;dsimp only;simp only[oN]
  have hlen:=EZ (k+1) l
  have h50:=h.len
  refine dj (uB l (fun i p=>(p.flatMap (wi (sL k)),(i:Int))) (a:= .inl ((sL (k+1) l),(l.length:Int))) (fun i e he=> ?_) ?_) rfl
  ·have hi:=bD he
   have hm:=Mb he
   simp only[bp hi,Mf,aw,he,L8,bN i oM]
   have hs:(l.take i++[e]).flatMap (wi (sL k))=(l.take i).flatMap (wi (sL k))++wi (sL k) e:=by rw[List.flatMap_append];simp
   have hl1:=Iu (wi (sL k)) l (i+1)
   rw[cP he,hs,Mh] at hl1
   have hl2:(l.flatMap (wi (sL k))).length<=300:=M5 hlen hc
   rw[hs]
   unfold wi at hl1⊢
   by_cases hn:e.fName=[]
   ·rw[M9 hn,NH hn];simp
   ·rw[NY hn] at hl1⊢
    rw[Ni hn,FK k e.fItems fu ((h.it hm).2 hn) (M5 (CM hm hn) hc) oM]
    simp only[Mv] at hl1
    simp only[Mo,Mf,L8]
    rw[fZ (by simp only[MI];unfold wi at hl2;omega),fZ (by simp only[Mh,MI];unfold wi at hl2;omega)]
    simp
  ·simp only[an,Mg];rfl
theorem FL (l:List (List UInt8)) (hl:l.length<=1000):hJ l=some (ik [] l):=by
 unfold hJ gm;dsimp only
 refine jx (X:=Nat) (fun i=>(i:Int)) (fun i=>l.length - i) (fun i=>i<=l.length/\ik [] l=ik (l.take i) (l.drop i)) ?_ 0 ⟨ME _,rfl⟩
 rintro i ⟨h1,h2⟩
 rcases Mr i l.length with hi|hi
 ·obtain⟨e,he⟩:=eb hi
  rw[kc he] at h2
  simp only[ik] at h2
  have inner:=jx (X:=Nat) (R:=Int⊕(Int⊕Bool)) (f:=fun s_1:Int=>bif decide (s_1<(i:Int)) then(b_ l (i:Int)).bind fun e=>(b_ l s_1).bind fun e_1=>bif decide (e=e_1) then dy (dy (dy (dy (some true)))) else some (Sum.inl (IntKind.i64.wrap (s_1+1))) else dy (some (Sum.inl s_1)))
   (k:=dg fun _=>some (Sum.inl (IntKind.i64.wrap ((i:Int)+1)))) (c:=if(l.take i).contains e=true then some (.inr (.inr true)) else some (.inl ((i+1:Nat):Int))) (fun j=>(j:Int)) (fun j=>i - j) (fun j=>j<=i/\(l.take j).contains e=false) (by
    rintro j ⟨k1,k2⟩
    rcases Mr j i with hj|hj
    ·obtain⟨q,hq⟩:=eb (l:=l) (i:=j) oM
     simp only[bp hj,Mf,aw,he,hq,L8,bN j oM]
     by_cases hqe:e=q
     ·subst hqe
      refine .inr ⟨_,by rw[M9 rfl];rfl, ?_⟩
      have:(l.take i).contains e=true:=by
       simp only[List.contains_iff_mem]
       exact Mb (by rw[List.getElem?_take_of_lt hj];exact hq)
      rw[this];rfl
     ·refine .inl ⟨j+1,⟨hj, ?_⟩,by omega,by rw[Ni hqe];rfl⟩
      rw[cP hq]
      simp only[Nt,Mt,Nd,MA,not_or] at k2⊢
      exact⟨k2,hqe⟩
    ·have hl':j=i:=by omega
     subst hl'
     refine .inr ⟨_,by simp only[an,Mg];rfl, ?_⟩
     rw[k2,bN j oM];rfl) 0 ⟨ME _,by simp⟩
  simp only[bp hi,Mf]
  rw[show((0:Nat):Int)=0 from rfl] at inner
  rw[inner]
  cases hc:(l.take i).contains e with
  |true=>rw[hc] at h2;exact .inr ⟨_,by rw[NH rfl],by rw[h2];rfl⟩
  |false=>
   rw[hc,MB,<-cP he] at h2
   exact .inl ⟨i+1,⟨hi,h2⟩,by omega,by rw[NY oS]⟩
 ·have hl':i=l.length:=by omega
  subst hl'
  rw[Nl] at h2
  exact .inr ⟨_,by simp only[an,Mg];rfl,by rw[h2];rfl⟩
theorem FM {D:List UInt8->Bool}:∀ (k:Nat) (l:List Sl) (b:List (List UInt8)) (g:Bool) (fu:Nat),AD D k l->b.length+50 * k<=400->k<=fu->cG fu l b g=some (AE k l (fun t=>b.contains t) g)
 |0,_,_,_,_,h,_,_=>h.elim
 |k+1,l,b,g,0,_,_,h=>by omega
 |k+1,l,b,g,fu+1,h,hb,hf=>by
  rw[nF];unfold tW;dsimp only;simp only[nE]
  have h50:=h.len
  have hb4:b.length<=400:=by omega
  have hit:∀ (i:Nat) (e:Sl) (p:List Sl),l[i]?=some e->p.length<=50->(dD (fun s:Int=>bif decide (s<(b.length:Int)) then(b_ b s).bind fun e_1=>bif decide (e_1=du e) then dy (dy (dy (dy (some true)))) else some (Sum.inl (IntKind.i64.wrap (s+1))) else dy (some (Sum.inl s))) 0).bind (dg fun _=>some (Sum.inl (p.map du++[du e],((i+1:Nat):Int))))=
    (if b.contains (du e)=true then some (.inr (.inr true)) else some (.inl (p.map du++[du e],((i+1:Nat):Int))):Option ((List (List UInt8)×Int)⊕((List (List UInt8)×Int)⊕Bool))):=by
   intro i e p he hp
   refine jx (X:=Nat) (fun j=>(j:Int)) (fun j=>b.length - j) (fun j=>j<=b.length/\(b.take j).contains (du e)=false) ?_ 0 ⟨ME _,by simp⟩
   rintro j ⟨k1,k2⟩
   rcases Mr j b.length with hj|hj
   ·obtain⟨q,hq⟩:=eb hj
    simp only[bp hj,Mf,aw,hq,L8,bN j oM]
    by_cases hqe:q=du e
    ·refine .inr ⟨_,by rw[M9 hqe];rfl, ?_⟩
     have:b.contains (du e)=true:=by
      simp only[List.contains_iff_mem]
      rw[<-hqe];exact Mb hq
     rw[this];rfl
    ·refine .inl ⟨j+1,⟨hj, ?_⟩,by omega,by rw[Ni hqe];rfl⟩
     rw[cP hq]
     simp only[Nt,Mt,Nd,MA,not_or] at k2⊢
     exact⟨k2,fun h=>hqe h.symm⟩
   ·have hl':j=b.length:=by omega
    subst hl'
    rw[MQ] at k2
    refine .inr ⟨_,by simp only[an,Mg];rfl, ?_⟩
    rw[k2];rfl
  have hlast:∀ T,T=l.map du->(dD (fun s_1:Int=>bif decide (s_1<(l.length:Int)) then(b_ l s_1).bind fun e=>bif decide (e.fName=[]) then some (Sum.inl (IntKind.i64.wrap (s_1+1))) else lS (sN b.length) ((eu T ((some s_1).getD 0) ((none:Option Int).getD ((T.length:Nat):Int))).bind fun e=>lS (sN (b.length+e.length)) ((b_ l s_1).bind fun e_1=>(cG fu e_1.fItems (b++e) true).bind fun x=>bif x then dy (dy (some true)) else some (Sum.inl (IntKind.i64.wrap (s_1+1))))) else dy (some (Sum.inl s_1))) 0).bind (dg fun _=>some false)=some (GT (fun it S'=>AE k it S' true) (fun t=>b.contains t) l):=by
   rintro T rfl
   refine jx (X:=Nat) (fun i=>(i:Int)) (fun i=>l.length - i) (fun i=>i<=l.length/\GT (fun it S'=>AE k it S' true) (fun t=>b.contains t) l=GT (fun it S'=>AE k it S' true) (fun t=>b.contains t) (l.drop i)) ?_ 0 ⟨ME _,rfl⟩
   rintro i ⟨k1,k2⟩
   rcases Mr i l.length with hi|hi
   ·obtain⟨e,he⟩:=eb hi
    have hm:=Mb he
    have hdr:=kc he
    rw[hdr] at k2
    simp only[GT] at k2
    simp only[bp hi,Mf,aw,he,L8,bN i oM]
    by_cases hn:e.fName=[]
    ·rw[M9 hn] at k2⊢
     exact .inl ⟨i+1,⟨hi,by simpa using k2⟩,by omega,rfl⟩
    ·rw[Ni hn] at k2⊢
     have hsl:eu (l.map du) ((some (i:Int)).getD 0) ((none:Option Int).getD (((l.map du).length:Nat):Int))=some ((l.drop i).map du):=by
      simp only[Nf,MO,eu]
      rw[NH ⟨by omega,by simp;omega,Na _⟩]
      rw[Nh (List.map du l).length,MF (Me _)]
      simp
     have hlen:((l.drop i).map du).length<=50:=by simp;omega
     have hrec:=FM k e.fItems (b++(l.drop i).map du) true fu ((h.it hm).2 hn) (by rw[Mh];omega) oM
     simp only[Mg]
     rw[fZ oM,hsl]
     simp only[L8]
     rw[fZ oM,hrec]
     simp only[L8]
     have hS:(fun t=>(b++(l.drop i).map du).contains t)=fun t=>b.contains t||((e::l.drop (i+1)).map du).contains t:=by
      funext t
      rw[<-hdr,Mp]
      simp only[List.contains_iff_mem,Mt,Mu]
     rw[hS]
     simp only[Mo,Mj] at k2
     cases hc:AE k e.fItems (fun t=>b.contains t||((e::l.drop (i+1)).map du).contains t) true with
     |true=>rw[hc] at k2;exact .inr ⟨_,rfl,by rw[k2];rfl⟩
     |false=>rw[hc] at k2;exact .inl ⟨i+1,⟨hi,by simpa using k2⟩,by omega,rfl⟩
   ·have hl':i=l.length:=by omega
    subst hl'
    rw[Nl] at k2
    exact .inr ⟨_,by simp only[an,Mg];rfl,by rw[k2];rfl⟩
  refine jx (X:=Nat) (fun i=>((l.take i).map du,(i:Int))) (fun i=>l.length - i) (fun i=>i<=l.length/\Au (fun t=>b.contains t) g 0 (l.map du)=Au (fun t=>b.contains t) g i ((l.drop i).map du)) ?_ 0 ⟨ME _,rfl⟩
  rintro i ⟨k1,k2⟩
  rcases Mr i l.length with hi|hi
  ·obtain⟨e,he⟩:=eb hi
   have hpl:(l.take i).length<=50:=by rw[MK];omega
   rw[kc he] at k2
   simp only[Mk,Au] at k2
   simp only[bp hi,Mf,aw,he,L8,bN i oM,dB,KL]
   rw[fZ (by simp only[M6,MI];omega)]
   simp only[aO,L8]
   have hd0:decide ((i:Int)=0)=decide (i=0):=by congr 1;apply propext;omega
   rw[hd0]
   have hsn:(l.take (i+1)).map du=(l.take i).map du++[du e]:=by rw[cP he];simp
   cases hg:(g&&decide (i=0)) with
   |true=>
    rw[hg] at k2
    exact .inl ⟨i+1,⟨hi,by simpa using k2⟩,by omega,by rw[hsn];rfl⟩
   |false=>
    rw[hg] at k2
    simp only[Mg]
    rw[hit i e (l.take i) he hpl]
    cases hc:b.contains (du e) with
    |true=>
     rw[hc] at k2
     refine .inr ⟨_,by rw[NH rfl], ?_⟩
     unfold AE
     rw[k2];rfl
    |false=>
     rw[hc] at k2
     exact .inl ⟨i+1,⟨hi,by simpa using k2⟩,by omega,by rw[NY oS,hsn]⟩
  ·have hl':i=l.length:=by omega
   subst hl'
   rw[Nl] at k2
   rw[MQ]
   refine .inr ⟨_,by simp only[an,Mg];rfl, ?_⟩
   simp only[dg]
   rw[FL _ oT]
   unfold AE
   rw[k2]
   simp only[L8,Nw,Au,MB]
   cases hd:ik [] (l.map du) with
   |true=>rfl
   |false=>
    simp only[Mg,MB]
    exact hlast _ rfl
def CU (s:ae):Int:=
 if dN s.fKind=false\/dN s.fVersion=false then 5
 else if rD s.fDefs≠0 then rD s.fDefs
 else if(qS (aq s.fDefs) 8 s.fItems 0 0).1≠0 then(qS (aq s.fDefs) 8 s.fItems 0 0).1
 else if ik [] (sL 8 s.fItems)=true then 7
 else if AE 8 s.fItems (fun _=>false) false=true then 12
 else 0
structure Jw (s:ae):Prop where
 kind:s.fKind.length<=MX
 version:s.fVersion.length<=MX
 tags:∀ d∈s.fDefs,d.fTag.length<=MX
 items:∀ x∈s.fItems,CT x
theorem Av {l:List Df} (h:rD l=0):l.length<=100:=by
 unfold rD at h
 split at h
 ·cases h
 ·omega
theorem vu (s:ae) (h:Jw s):eB s=some (CU s):=by
 have hFU:=CC
 unfold eB t6;dsimp only
 rw[EX _ h.kind,EX _ h.version,KP _ h.tags]
 simp only[L8,bz]
 unfold CU
 by_cases c1:dN s.fKind=false\/dN s.fVersion=false
 ·rw[NH c1,show(!dN s.fKind|| !dN s.fVersion)=true by simpa using c1];rfl
 rw[NY c1,show(!dN s.fKind|| !dN s.fVersion)=false by simpa using c1]
 simp only[Mg]
 by_cases c2:rD s.fDefs=0
 ·rw[NY (not_not_intro c2),M9 c2]
  have hdl:=Av c2
  have hit:=FJ s oM 8 0 s.fItems 0 FU oM oM oM oM oM h.items
  rw[show((0:Nat):Int)=0 from rfl] at hit
  rw[hit]
  simp only[Mm,Mg,L8]
  by_cases c3:(qS (aq s.fDefs) 8 s.fItems 0 0).1=0
  ·rw[NY (not_not_intro c3),M9 c3]
   obtain⟨k1,k2⟩:=uE _ 8 s.fItems 0 0 c3
   have k3:=(uD _ 8 (l:=s.fItems) (deep:=0) (many:=0) oM oM c3).2
   have hcnt:lK 8 s.fItems<=300:=by omega
   have hnl:=EZ 8 s.fItems
   rw[FK 8 s.fItems FU k1 hcnt oM]
   simp only[Mm,Mg,L8]
   rw[FL _ oM,FM 8 s.fItems [] false FU k1 oS oM]
   simp only[L8]
   have hS:(fun t=>([]:List (List UInt8)).contains t)=fun _=>false:=by funext t;simp
   rw[hS]
   cases ik [] (sL 8 s.fItems) with
   |true=>rfl
   |false=>
    cases AE 8 s.fItems (fun _=>false) false<;>rfl
  ·rw[NH c3,Ni c3];rfl
 ·rw[NH c2,Ni c2];rfl
theorem E0 (s:List UInt8) (k:Int) (h0:s≠[]) (hs:s.length<=1000):mD s k=some (CL k s):=by
 unfold mD gl;dsimp only
 unfold CL
 by_cases k2:k=2
 ·subst k2
  rw[show decide ((2:Int)=2)=true from rfl]
  simp only[Mf]
  refine(nL s j4 false (fun i e he=> ?_) ?_).trans ?_
  ·have hi:=bD he
   have a2:((decide ((e.toNat:Int)<65)||decide (90<(e.toNat:Int)))&&(decide ((e.toNat:Int)<97)||decide (122<(e.toNat:Int)))&& !decide ((e.toNat:Int)=32))= !j4 e:=by
    unfold j4;rw[Mp];simp;omega
   simp only[bp hi,Mf,aw,he,L8,bz,aO,bN i oM,a2]
   cases j4 e<;>rfl
  ·simp only[an,Mg];rfl
  ·cases s.all j4<;>rfl
 rw[Ni k2]
 by_cases k3:k=3
 ·subst k3
  rw[wj s oM,iB h0]
  simp
 rw[Ni k3]
 by_cases k4:k=4
 ·subst k4
  obtain⟨d,e,h1,h2⟩:=Ea s oM
  rw[h1];simp[h2]
 rw[Ni k4]
 by_cases k5:k=5
 ·subst k5
  obtain⟨d,e,h1,h2⟩:=FT s oM
  rw[h1];simp[h2]
 rw[Ni k5]
 simp[k2,k3,k4,k5]
theorem Jx (d:ap):kE d=some (if 50<d.fCodes.length then 2 else oq (uC d) none d.fCodes):=by
 unfold kE lY;dsimp only
 by_cases c4:50<d.fCodes.length
 ·rw[NH c4,show decide (50<((d.fCodes.length:Nat):Int))=true by simp;omega];rfl
 ·rw[NY c4,show decide (50<((d.fCodes.length:Nat):Int))=false by simp;omega]
  simp only[Mg]
  refine(j3 d.fCodes (uC d) (fun n=>n) (fun i e he=> ?_) ?_).trans ?_
  ·have hi:=bD he
   have hp:=D1 he oM
   simp only[bp hi,Mf]
   rw[show b_ d.fCodes (i:Int)=some e by rw[aw];exact he]
   simp only[L8]
   rw[hp]
   simp only[L8,zb,bz,bN i oM]
   unfold uC Is
   by_cases c1:1<=e.length/\e.length<=20
   ·have b1:(decide (((e.length:Nat):Int)<1)||decide (20<((e.length:Nat):Int)))=false:=by simp;omega
    have hne:e≠[]:=fun h=>by rw[h] at c1;simp at c1
    rw[b1,E1 e _ _ oM,E0 e d.fType hne oM,M9 c1]
    have hrg:e.all (uG (UInt8.ofNat (Int.toNat 33)) (UInt8.ofNat (Int.toNat 126)))=e.all (uG 33 126):=rfl
    rw[hrg]
    simp only[BE,Mg,L8,Mj]
    cases ha:e.all (uG 33 126) with
    |false=>simp only[Mo,Mf,L8,N8];rfl
    |true=>
     simp only[Mm,Mg,L8,NK]
     by_cases c2:d.fMin<=(e.length:Int)/\(e.length:Int)<=d.fMax
     ·have b2:(decide (((e.length:Nat):Int)<d.fMin)||decide (d.fMax<((e.length:Nat):Int)))=false:=by simp;omega
      rw[b2,M9 c2]
      simp only[Mg,L8,Mj]
      cases CL d.fType e with
      |false=>rfl
      |true=>
       simp only[Mm,Mg,Nr]
       cases As (nj d.fCodes i) e<;>rfl
     ·have b2:(decide (((e.length:Nat):Int)<d.fMin)||decide (d.fMax<((e.length:Nat):Int)))=true:=by
       simp only[Mu,Ma];omega
      rw[b2,Ni c2];rfl
   ·have b1:(decide (((e.length:Nat):Int)<1)||decide (20<((e.length:Nat):Int)))=true:=by
     simp only[Mu,Ma];omega
    rw[b1,Ni c1];rfl
  ·simp only[an,Mg];rfl
  ·split
   ·rename_i h;rw[h]
   ·rfl
theorem KQ (d:ap):lB d=some (vt d):=by
 unfold lB tO;dsimp only
 simp only[zb,L8,bz,aO,Jx]
 unfold vt
 by_cases c1:1<=d.fType/\d.fType<=5
 ·rw[show(decide (d.fType<1)||decide (5<d.fType))=false by simp;omega,NY (not_not_intro c1)]
  simp only[Mg]
  by_cases c2:¬ (1<=d.fMin/\d.fMin<=d.fMax)\/1000<d.fMax
  ·rw[NH c2,show(decide (d.fMin<1)||decide (d.fMax<d.fMin)||decide (1000<d.fMax))=true by simp only[Mu,Ma];omega];rfl
  ·rw[NY c2,show(decide (d.fMin<1)||decide (d.fMax<d.fMin)||decide (1000<d.fMax))=false by simp only[ML,MA];omega]
   simp only[Mg]
   by_cases c3:d.fType=5/\(8<d.fMin\/d.fMax<8)
   ·rw[NH c3,show(decide (d.fType=5)&&(decide ((8:Int)<d.fMin)||decide (d.fMax<8)))=true by simp[c3.1];exact c3.2];rfl
   ·rw[NY c3,show(decide (d.fType=5)&&(decide ((8:Int)<d.fMin)||decide (d.fMax<8)))=false by simp only[M_,MA,ML];omega]
    rfl
 ·rw[show(decide (d.fType<1)||decide (5<d.fType))=true by simp only[Mu,Ma];omega,NH c1];rfl
theorem KR (e:aD):jb e=some (yJ e):=by
 unfold jb tP;dsimp only
 simp only[zb,L8,DY]
 unfold yJ
 by_cases d1:1<=e.fMost/\e.fMost<=20
 ·rw[show(decide (e.fMost<1)||decide (20<e.fMost))=false by simp;omega]
  simp only[Mg,d1,and_self,not_true_eq_false,MZ]
  by_cases d2:e.fParts=[]
  ·simp only[d2,Nr];rfl
  ·simp only[d2,MZ,NB,Mg]
   by_cases d3:20<e.fParts.length
   ·simp only[d3,Nr]
    rw[show decide (20<((e.fParts.length:Nat):Int))=true by simp;omega];rfl
   ·simp only[d3,MZ]
    rw[show decide (20<((e.fParts.length:Nat):Int))=false by simp;omega]
    simp only[Mg]
    refine(j3 e.fParts (fun _ p=>vt p) (fun n=>n) (fun i e he=> ?_) ?_).trans ?_
    ·have hi':=bD he
     simp only[bp hi',Mf,aw,he,L8,KQ,bN i oM]
     by_cases hz:vt e=0
     ·simp only[hz,Nr,NF,Mm,Mg]
     ·simp only[hz,MZ,NB,Mo,Mf];rfl
    ·simp only[an,Mg];rfl
    ·split
     ·rename_i h;rw[h]
     ·rfl
 ·rw[show(decide (e.fMost<1)||decide (20<e.fMost))=true by simp only[Mu,Ma];omega]
  simp only[d1,not_false_eq_true,Nr];rfl
theorem GL {l:List Df} {i:Nat} {e:Df} (he:l[i]?=some e) (hl:l.length<=1000):
  ov (decide (0<(i:Int))) ((b_ l (IntKind.i64.wrap ((i:Int) - 1))).bind fun e_1=>some (Op.bytesLess e.fTag e_1.fTag||decide (e.fTag=e_1.fTag)))=some (As ((nj l i).map (·.fTag)) e.fTag):=by
 have:=BR he hl
 rw[aw,he] at this
 exact this
theorem KS (l:List Df) (hl:∀ d∈l,d.fTag.length<=MX):lC l=some (rD l):=by
 unfold lC tR;dsimp only
 unfold rD
 by_cases c4:100<l.length
 ·rw[NH c4,show decide (100<((l.length:Nat):Int))=true by simp;omega];rfl
 ·rw[NY c4,show decide (100<((l.length:Nat):Int))=false by simp;omega]
  simp only[Mg]
  refine(j3 l At (fun n=>n) (fun i e he=> ?_) ?_).trans ?_
  ·have hi':=bD he
   have hm:=Mb he
   have hp:=GL he oM
   simp only[bp hi',Mf,aw l,he,L8,Ij _ (hl e hm),bN i oM]
   rw[hp]
   unfold At
   cases CJ e.fTag with
   |false=>rfl
   |true=>
    simp only[Mm,Mg,NC,MZ,L8]
    cases As ((nj l i).map (·.fTag)) e.fTag with
    |true=>rfl
    |false=>
     simp only[Mg,My,MZ]
     unfold GK
     by_cases c5:50<e.fElements.length
     ·rw[NH c5,show decide (50<((e.fElements.length:Nat):Int))=true by simp;omega];rfl
     ·rw[NY c5,show decide (50<((e.fElements.length:Nat):Int))=false by simp;omega]
      simp only[Mg]
      refine(j3 e.fElements (fun _ e=>yJ e) (fun n=> .inr (.inr n)) (fun i e he=> ?_) ?_).trans ?_
      ·have hi':=bD he
       simp only[bp hi',Mf,aw,he,L8,KR,bN i oM]
       by_cases hz:yJ e=0
       ·simp only[hz,Nr,NF,Mm,Mg]
       ·simp only[hz,MZ,NB,Mo,Mf];rfl
      ·simp only[an,Mg];rfl
      ·rfl
  ·simp only[an,Mg];rfl
  ·split
   ·rename_i h;rw[h]
   ·rfl
theorem BS {α:Type} {st:Option α->α->Int}:∀ {l:List α} {p:Option α},oq st p l=0->∀ (i:Nat) (a b:α),l[i]?=some a->l[i+1]?=some b->st (some a) b=0
 |[],_,_,i,a,b,h,_=>by simp at h
 |x::l,p,h,i,a,b,ha,hb=>by
  unfold oq at h
  by_cases hs:st p x=0
  ·rw[NH hs] at h
   cases i with
   |zero=>
    simp at ha hb
    subst ha
    cases l with
    |nil=>simp at hb
    |cons y l=>
     simp at hb;subst hb
     unfold oq at h
     by_cases h2:st (some x) y=0
     ·exact h2
     ·rw[NY h2] at h;exact absurd h h2
   |succ i=>exact BS h i a b (by simpa using ha) (by simpa using hb)
  ·rw[NY hs] at h;exact absurd h hs
theorem BT {l:List Df} (h:rD l=0):xi l:=by
 unfold rD at h
 split at h
 ·cases h
 ·intro i a b ha hb
  simp only[MH,Option.map_eq_some_iff] at ha hb
  obtain⟨x,hx,rfl⟩:=ha
  obtain⟨y,hy,rfl⟩:=hb
  have:=BS h i x y hx hy
  unfold At at this
  split at this
  ·cases this
  ·split at this
   ·cases this
   ·rename_i _ hbad
    simp only[As,MS,L3,Mu,Ma,not_or,Nx] at hbad
    rcases J3 y.fTag x.fTag with h|h|h
    ·exact absurd h hbad.2
    ·rw[hbad.1] at h;cases h
    ·exact h
theorem L0 {a b:Nat} (ha:a<=1000) (hb:b<=1000):IntKind.i64.wrap (IntKind.u64.wrap (IntKind.i64.wrap ((a:Int)+(b:Int)))/2)=(((a+b)/2:Nat):Int):=by
 rw[ge ((a:Int)+(b:Int)) oM oM,CQ oM oM,ge _ oM oM]
 omega
theorem Iv (l:List Df) (t:List UInt8) (hr:xi l) (hl:l.length<=1000) (f2:FuncId) (c2:List DV) (h2:∀ a0 a1 r,ek a0 a1=some r->aa Tryz.prog f2 ([.agg (am a0),.str a1]++c2) (.int .i64 r)):
  ∃ n,aC l t f2 c2 ek h2=some (n,aq l t)/\(aq l t=true->∃ d,b_ l n=some d/\d∈l/\d.fTag=t):=by
 have hcmp:∀ e:Df,ek e t=some (Lib.compareBytes e.fTag t):=fun e=>by
  unfold ek gl;dsimp only
  rfl
 have hlt:∀ {i j:Nat} {a b:Df},i<j->l[i]?=some a->l[j]?=some b->Op.bytesLess a.fTag b.fTag=true:=fun{i j a b} hij ha hb=>by
  exact hr.lt hij (by rw[MH,ha];rfl) (by rw[MH,hb];rfl)
 unfold aC gl;dsimp only
 have key:=ld (X:=Nat×Nat) (R:=Int×Bool) (C:=fun c=>∃ n,c=(n,aq l t)/\(aq l t=true->∃ d,b_ l n=some d/\d∈l/\d.fTag=t))
  (f:=fun s:Int×Int=>bif decide (s.fst<s.snd) then lS (Fl IntKind.u64 1) ((b_ l (IntKind.i64.wrap (IntKind.u64.wrap (IntKind.i64.wrap (s.fst+s.snd))/2))).bind fun e=>(ek e t).bind fun x=>bif decide (x<0) then some (Sum.inl (IntKind.i64.wrap (IntKind.i64.wrap (IntKind.u64.wrap (IntKind.i64.wrap (s.fst+s.snd))/2)+1),s.snd)) else some (Sum.inl (s.fst,IntKind.i64.wrap (IntKind.u64.wrap (IntKind.i64.wrap (s.fst+s.snd))/2)))) else dy (some (Sum.inl (s.fst,s.snd))))
  (k:=dg fun s:Int×Int=>(ov (decide (s.fst<(l.length:Int))) ((b_ l s.fst).bind fun e=>(ek e t).bind fun x=>some (decide (x=0)))).bind fun v=>some (s.fst,v))
  (fun s=>((s.1:Int),(s.2:Int))) (fun s=>s.2 - s.1) (fun s=>s.1<=s.2/\s.2<=l.length/\(∀ i e,i<s.1->l[i]?=some e->Op.bytesLess e.fTag t=true)/\∀ i e,s.2<=i->l[i]?=some e->Op.bytesLess e.fTag t=false) (by
   rintro⟨a,b⟩ ⟨h1,h2,h3,h4⟩
   simp only at h1 h2 h3 h4⊢
   rcases Mr a b with hab|hab
   ·have hm:(a+b)/2<l.length:=by omega
    obtain⟨e,he⟩:=eb hm
    simp only[L0 (a:=a) (b:=b) oM oM,aw,he,L8,hcmp,bp hab,Mf,bN ((a+b)/2) oM]
    rw[bU (nZ.2 ⟨by omega,by simp[IntKind.bits]⟩)]
    by_cases hc:Op.bytesLess e.fTag t=true
    ·rw[M9 (JI.2 hc)]
     refine .inl ⟨((a+b)/2+1,b),⟨by omega,h2,fun i x hi hx=> ?_,h4⟩,by simp only;omega,rfl⟩
     rcases Mr i ((a+b)/2) with h|h
     ·exact ta (hlt h hx he) hc
     ·have:i=(a+b)/2:=by simp only at hi;omega
      subst this
      rw[he] at hx;simp only[L7] at hx;subst hx;exact hc
    ·rw[Ni (fun h=>hc (JI.1 h))]
     refine .inl ⟨(a,(a+b)/2),⟨by omega,by omega,h3,fun i x hi hx=> ?_⟩,by simp only;omega,rfl⟩
     cases hv:Op.bytesLess x.fTag t with
     |false=>rfl
     |true=>
      exfalso
      simp only at hi
      rcases Mr ((a+b)/2) i with h|h
      ·exact hc (ta (hlt h he hx) hv)
      ·have:i=(a+b)/2:=by omega
       subst this
       rw[he] at hx;simp only[L7] at hx;subst hx;exact hc hv
   ·have hab':a=b:=by omega
    subst hab'
    have hd:decide ((a:Int)<(a:Int))=false:=by simp
    refine .inr ⟨.inl ((a:Int),(a:Int)),((a:Int),aq l t),by rw[hd];rfl, ?_,(a:Int),rfl, ?_⟩
    ·simp only[dg]
     rcases Mr a l.length with ha|ha
     ·obtain⟨e,he⟩:=eb ha
      simp only[bp ha,ov,Mf,aw,he,L8,hcmp]
      have:decide (Lib.compareBytes e.fTag t=0)=aq l t:=by
       rw[Mp,Ma,K8]
       unfold aq
       rw[Ny]
       constructor
       ·intro h;exact⟨e,Mb he,by simpa using h⟩
       ·rintro⟨x,hx,hxt⟩
        simp only[Ma] at hxt
        obtain⟨j,hj⟩:=NE hx
        rcases Nat.lt_trichotomy j a with h|h|h
        ·have:=h3 j x h hj
         rw[hxt,j6] at this;cases this
        ·subst h;rw[he] at hj;simp only[L7] at hj;rw[hj];exact hxt
        ·have:=hlt h he hj
         rw[hxt] at this
         have k:=h4 a e (Me _) he
         rw[k] at this;cases this
      rw[this]
     ·have hd2:decide ((a:Int)<((l.length:Nat):Int))=false:=by simp;omega
      rw[hd2]
      have:aq l t=false:=by
       unfold aq
       rw[List.any_eq_false]
       intro x hx hxt
       simp only[Ma] at hxt
       obtain⟨j,hj⟩:=NE hx
       have:=h3 j x (by have:=bD hj;omega) hj
       rw[hxt,j6] at this;cases this
      rw[this];rfl
    ·intro ht
     unfold aq at ht
     rw[Ny] at ht
     obtain⟨x,hx,hxt⟩:=ht
     simp only[Ma] at hxt
     obtain⟨j,hj⟩:=NE hx
     have hja:a<=j:=by
      rcases Mr j a with h|h
      ·have:=h3 j x h hj
       rw[hxt,j6] at this;cases this
      ·exact h
     obtain⟨d,hd'⟩:=eb (l:=l) (i:=a) (by have:=bD hj;omega)
     refine⟨d,by rw[aw];exact hd',Mb hd', ?_⟩
     rcases Mr a j with h|h
     ·have k1:=hlt h hd' hj
      rw[hxt] at k1
      have k2:=h4 a d (Me _) hd'
      rw[k1] at k2;cases k2
     ·have:j=a:=by omega
      subst this
      rw[hj] at hd';simp only[L7] at hd';rw[<-hd'];exact hxt) (0,l.length) ⟨ME _,Me _,fun i e hi=>by simp at hi,fun i e hi he=>by
      have:=bD he;simp only at hi;omega⟩
 obtain⟨c,hc,n,rfl,hn⟩:=key
 exact⟨n,hc,hn⟩
theorem D5 (s:ae) (t:List UInt8) (hr:xi s.fDefs) (hl:s.fDefs.length<=1000):∃ d,fJ s t=some (d,aq s.fDefs t)/\(aq s.fDefs t=true->d∈s.fDefs/\d.fTag=t):=by
 unfold fJ lY;dsimp only
 obtain⟨n,hn,hd⟩:=Iv s.fDefs t hr hl 126 [] (by first|exact(fun a0 a1 r h=>kC a0 a1 r h)|exact(fun a0 a1 r h=>by simpa using kC a0 a1 r h))
 rw[hn]
 simp only[L8]
 cases hv:aq s.fDefs t with
 |false=>exact⟨_,rfl,fun h=>by cases h⟩
 |true=>
  obtain⟨d,hd,k1,k2⟩:=hd hv
  exact⟨d,by rw[hd];rfl,fun _=>⟨k1,k2⟩⟩
theorem Jy (s:ae) (t:List UInt8) (hr:xi s.fDefs) (hl:s.fDefs.length<=1000):∃ d,fJ s t=some (d,aq s.fDefs t):=by
 obtain⟨d,h, -⟩:=D5 s t hr hl
 exact⟨d,h⟩
theorem Iw {l:List Df} (hr:xi l) {a b:Df} (ha:a∈l) (hb:b∈l) (h:a.fTag=b.fTag):a=b:=by
 obtain⟨i,hi⟩:=NE ha
 obtain⟨j,hj⟩:=NE hb
 have key:∀ {i j:Nat} {a b:Df},i<j->l[i]?=some a->l[j]?=some b->a.fTag≠b.fTag:=fun{i j a b} hij ha hb e=>by
  have:Op.bytesLess a.fTag b.fTag=true:=hr.lt hij (by rw[MH,ha];rfl) (by rw[MH,hb];rfl)
  rw[e,j6] at this;cases this
 rcases Nat.lt_trichotomy i j with q|q|q
 ·exact absurd h (key q hi hj)
 ·subst q;rw[hi] at hj;exact NR hj
 ·exact absurd h.symm (key q hj hi)
end Go.Proofs.YteaolfcegaidpaaGreatDoor
