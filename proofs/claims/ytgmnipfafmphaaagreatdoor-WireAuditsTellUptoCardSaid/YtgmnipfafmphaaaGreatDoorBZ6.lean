/-
  Texts of mine, one behind the other (SZSO3, SZSO4, SZSO5, SZSO6, SZAU6, SZAT1, SZAT2, SZAT3, SZAU7, SZAU8, SZAU9, SZAU10, SZAU11, SZQ5, SZQ6).
-/
import Derived.Test.YtgmnipfafmphaaaGreatDoorBZ2
import Derived.Test.YtgmnipfafmphaaaGreatDoorBZ3
import Derived.Test.YtgmnipfafmphaaaGreatDoorBZ4
import Derived.Test.YtgmnipfafmphaaaGreatDoorBZ5
namespace Go.Proofs.YtgmnipfafmphaaaGreatDoor
open Go.RowKit
set_option linter.unusedSimpArgs false
set_option linter.unusedVariables false
section
variable {α:Type}
noncomputable def C8 (rec:List α->Int->Int->Int->Option (Unit×List α)) (L:List α) (a s mid e b:Int):Option (Unit×List α):=
 (ot (decide (a<s)) (some (decide (s<mid)))).bind fun v=>bif v then(rec L a s mid).bind fun y=>(ot (decide (mid<e)) (some (decide (e<b)))).bind fun v=>bif v then(rec y.2 mid e b).bind fun y=>some ((),y.2) else some ((),y.2)
  else(ot (decide (mid<e)) (some (decide (e<b)))).bind fun v=>bif v then(rec L mid e b).bind fun y=>some ((),y.2) else some ((),L)
noncomputable def Gr (rec:List α->Int->Int->Int->Option (Unit×List α)) (L:List α) (a m b:Int):Int×Int->Option (Unit×List α):=fun s=>
 (ot (decide (s.1<m)) (some (decide (m<IntKind.i64.wrap (IntKind.i64.wrap (kZ a b+m) - s.1))))).bind fun v=>bif v then(HR L s.1 m (IntKind.i64.wrap (IntKind.i64.wrap (kZ a b+m) - s.1))).bind fun y=>C8 rec y.2 a s.1 (kZ a b) (IntKind.i64.wrap (IntKind.i64.wrap (kZ a b+m) - s.1)) b
  else C8 rec L a s.1 (kZ a b) (IntKind.i64.wrap (IntKind.i64.wrap (kZ a b+m) - s.1)) b
noncomputable def Jn (c:α->α->Option Int) (rec:List α->Int->Int->Int->Option (Unit×List α)) (L:List α) (a m b:Int):Option (Unit×List α):=
 bif decide (IntKind.i64.wrap (m - a)=1) then(bg (Eh c L (fun h=>h) (fun _=>a) (fun x=>decide (x<0))) (m,b)).bind (eg fun s=>(bg (J9 s.1) (L,a)).bind (eg fun s=>some ((),s.1)))
 else bif decide (IntKind.i64.wrap (b - m)=1) then(bg (Eh c L (fun _=>m) (fun h=>h) (fun x=> !decide (x<0))) (a,m)).bind (eg fun s=>(bg (Jw s.1) (L,m)).bind (eg fun s=>some ((),s.1)))
 else mi (Jr .u64 1) (bif decide (kZ a b<m) then(bg (Eh c L (fun h=>IntKind.i64.wrap (IntKind.i64.wrap (IntKind.i64.wrap (kZ a b+m) - 1) - h)) (fun h=>h) (fun x=> !decide (x<0))) (IntKind.i64.wrap (IntKind.i64.wrap (kZ a b+m) - b),kZ a b)).bind (eg (Gr rec L a m b))
  else(bg (Eh c L (fun h=>IntKind.i64.wrap (IntKind.i64.wrap (IntKind.i64.wrap (kZ a b+m) - 1) - h)) (fun h=>h) (fun x=> !decide (x<0))) (a,m)).bind (eg (Gr rec L a m b)))
noncomputable def D3 (c:α->α->Option Int):Nat->List α->Int->Int->Int->Option (Unit×List α)
 |0=>fun _ _ _ _=>none
 |fu+1=>Jn c (D3 c fu)
theorem Gs (A U V B:List α) (k:Nat) (h:k<U.length):(A++U++V++B)[A.length+k]?=U[k]?:=by
 rw[Lc,Lc,Lv oM,show A.length+k - A.length=k by omega,LH h]
theorem Gt (A U V B:List α) (k:Nat) (h:k<V.length):(A++U++V++B)[A.length+U.length+k]?=V[k]?:=by
 rw[Lc,Lv oS,K4,show A.length+U.length+k - (A.length+U.length)=k by omega,LH h]
def Br (Q:α->Prop) (lt:α->α->Bool) (n:Nat) (rec:List α->Int->Int->Int->Option (Unit×List α)):Prop:=∀ A U V B:List α,U≠[]->V≠[]->(∀ u∈U,Q u)->(∀ v∈V,Q v)->kP lt U->kP lt V->U.length+V.length<=n->A.length+U.length+V.length+B.length<=1152921504606846976->
 ∃ W,rec (A++U++V++B) ((A.length:Nat):Int) ((A.length+U.length:Nat):Int) ((A.length+U.length+V.length:Nat):Int)=some ((),A++W++B)/\kP lt W/\SP lt (U++V) W
theorem C9 (x y:Bool):ot x (some y)=some (x&&y):=by cases x<;>rfl
theorem Bs {Q:α->Prop} {lt:α->α->Bool} {n:Nat} {rec:List α->Int->Int->Int->Option (Unit×List α)} (hr:Br Q lt n rec) (A U V B:List α) (qU:∀ u∈U,Q u) (qV:∀ v∈V,Q v) (hU:kP lt U) (hV:kP lt V) (hn:U.length+V.length<=n) (hb:A.length+U.length+V.length+B.length<=1152921504606846976) (k:Unit×List α->Option (Unit×List α)) (K:Option (Unit×List α))
  (hK:K=k ((),A++U++V++B)):
  ∃ W,((ot (decide (((A.length:Nat):Int)<((A.length+U.length:Nat):Int))) (some (decide (((A.length+U.length:Nat):Int)<((A.length+U.length+V.length:Nat):Int))))).bind fun v=>bif v then(rec (A++U++V++B) ((A.length:Nat):Int) ((A.length+U.length:Nat):Int) ((A.length+U.length+V.length:Nat):Int)).bind k else K)=k ((),A++W++B)/\kP lt W/\SP lt (U++V) W:=by
 rw[C9,K3]
 cases U with
 |nil=>
  refine⟨V, ?_,hV,SP.refl _ _⟩
  have:decide (((A.length:Nat):Int)<((A.length+([]:List α).length:Nat):Int))=false:=by simp
  rw[this,hK];simp
 |cons u U=>
  cases V with
  |nil=>
   refine⟨u::U, ?_,hU,by simpa using SP.refl lt (u::U)⟩
   have:decide (((A.length+(u::U).length:Nat):Int)<((A.length+(u::U).length+([]:List α).length:Nat):Int))=false:=by simp
   rw[this,hK];simp
  |cons v V=>
   obtain⟨W,h1,h2⟩:=hr A (u::U) (v::V) B oS oS qU qV hU hV hn hb
   refine⟨W, ?_,h2⟩
   have e1:decide (((A.length:Nat):Int)<((A.length+(u::U).length:Nat):Int))=true:=by simp;omega
   have e2:decide (((A.length+(u::U).length:Nat):Int)<((A.length+(u::U).length+(v::V).length:Nat):Int))=true:=by simp;omega
   rw[e1,e2,h1];rfl
theorem Gu {Q:α->Prop} {lt:α->α->Bool} {n:Nat} {rec:List α->Int->Int->Int->Option (Unit×List α)} (hr:Br Q lt n rec) (A U1 V1 U2 V2 B:List α) (q1:∀ u∈U1,Q u) (q2:∀ u∈V1,Q u) (q3:∀ u∈U2,Q u) (q4:∀ u∈V2,Q u) (h1:kP lt U1) (h2:kP lt V1) (h3:kP lt U2) (h4:kP lt V2) (hn1:U1.length+V1.length<=n) (hn2:U2.length+V2.length<=n)
  (hb:A.length+U1.length+V1.length+U2.length+V2.length+B.length<=1152921504606846976) (a s mid e b:Int) (ha:a=(A.length:Nat)) (hs:s=((A.length+U1.length:Nat):Int)) (hm:mid=((A.length+U1.length+V1.length:Nat):Int)) (he:e=((A.length+U1.length+V1.length+U2.length:Nat):Int)) (hbb:b=((A.length+U1.length+V1.length+U2.length+V2.length:Nat):Int)):
  ∃ W1 W2,C8 rec (A++U1++V1++U2++V2++B) a s mid e b=some ((),A++W1++W2++B)/\kP lt W1/\SP lt (U1++V1) W1/\kP lt W2/\SP lt (U2++V2) W2:=by
 obtain⟨W1,g1,g2,g3⟩:=Bs hr A U1 V1 (U2++V2++B) q1 q2 h1 h2 hn1 oT (fun y=>(ot (decide (mid<e)) (some (decide (e<b)))).bind fun v=>bif v then(rec y.2 mid e b).bind fun y=>some ((),y.2) else some ((),y.2))
  ((ot (decide (mid<e)) (some (decide (e<b)))).bind fun v=>bif v then(rec (A++U1++V1++(U2++V2++B)) mid e b).bind fun y=>some ((),y.2) else some ((),A++U1++V1++(U2++V2++B))) rfl
 have l1:W1.length=U1.length+V1.length:=by rw[<-g3.1.length_eq,K4]
 obtain⟨W2,k1,k2,k3⟩:=Bs hr (A++W1) U2 V2 B q3 q4 h3 h4 hn2 (by rw[K4];omega) (fun y=>some ((),y.2)) (some ((),A++W1++U2++V2++B)) rfl
 refine⟨W1,W2, ?_,g2,g3,k2,k3⟩
 unfold C8
 have e0:A++U1++V1++U2++V2++B=A++U1++V1++(U2++V2++B):=by simp
 rw[e0]
 rw[<-hs,<-hm,<-ha] at g1
 rw[g1]
 rw[show(A++W1).length+U2.length=A.length+U1.length+V1.length+U2.length by rw[K4];omega,show(A++W1).length=A.length+U1.length+V1.length by rw[K4];omega,<-he,<-hm,<-hbb] at k1
 rw[show A++W1++(U2++V2++B)=A++W1++U2++V2++B by simp]
 exact k1
theorem D4 {lt:α->α->Bool} (O:ny lt) {U V W1 W2:List α} {k l:Nat} (hU:kP lt U) (hV:kP lt V)
  (c1:k=0\/V.length<=l\/∃ u v,U[k - 1]?=some u/\V[l]?=some v/\lt v u=false) (c2:l=0\/U.length<=k\/∃ u v,V[l - 1]?=some v/\U[k]?=some u/\lt v u=true)
  (h1:kP lt W1) (h2:SP lt (U.take k++V.take l) W1) (h3:kP lt W2) (h4:SP lt (U.drop k++V.drop l) W2):kP lt (W1++W2)/\SP lt (U++V) (W1++W2):=by
 have d1:∀ u∈U.take k,∀ v∈V.drop l,lt v u=false:=by
  rcases c1 with rfl|h|⟨u,v,g1,g2,g3⟩
  ·simp
  ·rw[Mi h];simp
  ·intro u' hu'
   have a1:lt v u'=false:=pP hU (P:=fun w=>lt v w=false) O (fun w w' h g=>O.tr w' w v h g) (.inr ⟨u,g1,g3⟩) u' hu'
   exact sE hV (P:=fun w=>lt w u'=false) (fun w w' h g=>O.tr u' w w' g h) (.inr ⟨v,g2,a1⟩)
 have d2:∀ u∈U.drop k,∀ v∈V.take l,lt v u=true:=by
  rcases c2 with rfl|h|⟨u,v,g1,g2,g3⟩
  ·simp
  ·rw[Mi h];simp
  ·intro u' hu'
   have a1:lt v u'=true:=sE hU (P:=fun w=>lt v w=true) (fun w w' h g=>O.lt_right h g) (.inr ⟨u,g2,g3⟩) u' hu'
   exact pP hV (P:=fun w=>lt w u'=true) O (fun w w' h g=>O.lt_left h g) (.inr ⟨v,g1,a1⟩)
 have sU:kP lt (U.take k++U.drop k):=by rwa[Lg]
 have sV:kP lt (V.take l++V.drop l):=by rwa[Lg]
 have pU:=(ia.1 sU).2.2
 have pV:=(ia.1 sV).2.2
 refine⟨ia.2 ⟨h1,h3,fun a ha b hb=> ?_⟩, ?_⟩
 ·rcases Le.1 (h2.1.symm.subset ha) with ha|ha<;>rcases Le.1 (h4.1.symm.subset hb) with hb|hb
  ·exact pU a ha b hb
  ·exact d1 a ha b hb
  ·exact O.asym _ _ (d2 b hb a ha)
  ·exact pV a ha b hb
 ·have e:U++V=U.take k++(U.drop k++V.take l)++V.drop l:=by
   rw[<-Lc,Lg,Lc,Lg]
  rw[e]
  refine((SP.refl lt (U.take k)).app (SP.swap O d2)).app (SP.refl lt (V.drop l))|>.trans ?_
  rw[show U.take k++(V.take l++U.drop k)++V.drop l=(U.take k++V.take l)++(U.drop k++V.drop l) by simp]
  exact h2.app h4
theorem D5 {Q:α->Prop} {lt:α->α->Bool} (O:ny lt) {n:Nat} {rec:List α->Int->Int->Int->Option (Unit×List α)} (hr:Br Q lt n rec) (A U V B:List α) (qU:∀ u∈U,Q u) (qV:∀ v∈V,Q v) (hU:kP lt U) (hV:kP lt V) (hb:A.length+U.length+V.length+B.length<=1152921504606846976) (r:Nat) (k l:Nat)
  (hk:r=A.length+k) (hk2:k<=U.length) (hl2:l<=V.length) (hkl:A.length+k+l=(A.length+(A.length+U.length+V.length))/2) (hn:U.length+V.length<=2 * n)
  (c1:k=0\/V.length<=l\/∃ u v,U[k - 1]?=some u/\V[l]?=some v/\lt v u=false) (c2:l=0\/U.length<=k\/∃ u v,V[l - 1]?=some v/\U[k]?=some u/\lt v u=true):
  ∃ W,Gr rec (A++U++V++B) ((A.length:Nat):Int) ((A.length+U.length:Nat):Int) ((A.length+U.length+V.length:Nat):Int) ((r:Int),(r:Int))=some ((),A++W++B)/\kP lt W/\SP lt (U++V) W:=by
 have lU1:(U.take k).length=k:=by rw[Lb];omega
 have lU2:(U.drop k).length=U.length - k:=L5
 have lV1:(V.take l).length=l:=by rw[Lb];omega
 have lV2:(V.drop l).length=V.length - l:=L5
 have sU:kP lt (U.take k++U.drop k):=by rwa[Lg]
 have sV:kP lt (V.take l++V.drop l):=by rwa[Lg]
 have wm:kZ ((A.length:Nat):Int) ((A.length+U.length+V.length:Nat):Int)=((A.length+k+l:Nat):Int):=by rw[vi _ _ oM,hkl]
 have we:IntKind.i64.wrap (IntKind.i64.wrap (((A.length+k+l:Nat):Int)+((A.length+U.length:Nat):Int)) - (r:Int))=((A.length+U.length+l:Nat):Int):=by
  rw[aZ (((A.length+k+l:Nat):Int)+((A.length+U.length:Nat):Int)) oM oM,aZ _ oM oM];omega
 obtain⟨W1,W2,t1,t2,t3,t4,t5⟩:=Gu hr A (U.take k) (V.take l) (U.drop k) (V.drop l) B (fun u h=>qU u (Lq h)) (fun u h=>qV u (Lq h)) (fun u h=>qU u (LW h)) (fun u h=>qV u (LW h)) (ia.1 sU).1 (ia.1 sV).1 (ia.1 sU).2.1 (ia.1 sV).2.1 oM oM oM
  ((A.length:Nat):Int) (r:Int) ((A.length+k+l:Nat):Int) ((A.length+U.length+l:Nat):Int) ((A.length+U.length+V.length:Nat):Int) rfl oM oM oM oM
 obtain⟨m1,m2⟩:=D4 O hU hV c1 c2 t2 t3 t4 t5
 refine⟨W1++W2, ?_,m1,m2⟩
 unfold Gr
 dsimp only
 rw[wm,we,C9,K3,show A++(W1++W2)++B=A++W1++W2++B by simp,<-t1]
 have e0:A++U++V++B=(A++U.take k)++U.drop k++V.take l++(V.drop l++B):=by
  have e9:A++U++V++B=A++(U.take k++U.drop k)++(V.take l++V.drop l)++B:=by rw[Lg,Lg]
  rw[e9];simp only[Lc]
 by_cases hc:k<U.length/\0<l
 ·have e1:decide ((r:Int)<((A.length+U.length:Nat):Int))=true:=by simp;omega
  have e2:decide (((A.length+U.length:Nat):Int)<((A.length+U.length+l:Nat):Int))=true:=by simp;omega
  rw[e1,e2,e0,HS (A++U.take k) (U.drop k) (V.take l) (V.drop l++B) _ _ _ (by intro h0;rw[h0] at lU2;simp at lU2;omega) (by intro h0;rw[h0] at lV1;simp at lV1;omega) (by simp only[K4];omega) (by rw[K4];omega) (by rw[K4];omega) (by rw[K4];omega)]
  simp
 ·have e1:(decide ((r:Int)<((A.length+U.length:Nat):Int))&&decide (((A.length+U.length:Nat):Int)<((A.length+U.length+l:Nat):Int)))=false:=by
   rw[Bool.and_eq_false_iff,Lp,Lp];omega
  rw[e1,e0]
  have e2:(A++U.take k)++U.drop k++V.take l++(V.drop l++B)=A++U.take k++V.take l++U.drop k++V.drop l++B:=by
   rcases Nat.eq_zero_or_pos l with rfl|hl
   ·simp
   ·rw[Mi (show U.length<=k by omega)];simp only[Lc,Lk]
  rw[e2];rfl
end
section
variable {α:Type}
theorem Gv {Q:α->Prop} {c:α->α->Option Int} {lt:α->α->Bool} (O:ny lt) (hc:C5 Q c lt) {n:Nat} {rec:List α->Int->Int->Int->Option (Unit×List α)} (hr:Br Q lt n rec) (A U V B:List α) (qU:∀ u∈U,Q u) (qV:∀ v∈V,Q v) (hU:kP lt U) (hV:kP lt V) (hb:A.length+U.length+V.length+B.length<=1152921504606846976) (hn:U.length+V.length<=2 * n)
  (lo hi mid:Nat) (hmid:mid=(A.length+(A.length+U.length+V.length))/2) (h1:A.length<=lo) (h2:lo<=hi) (h3:hi<=A.length+U.length) (h4:hi<=mid) (h5:mid+(A.length+U.length)<=A.length+U.length+V.length+lo) (h6:lo=A.length\/mid+(A.length+U.length)=A.length+U.length+V.length+lo) (h7:hi=A.length+U.length\/hi=mid):
  ∃ W,(bg (Eh c (A++U++V++B) (fun h=>IntKind.i64.wrap (IntKind.i64.wrap (IntKind.i64.wrap (kZ ((A.length:Nat):Int) ((A.length+U.length+V.length:Nat):Int)+((A.length+U.length:Nat):Int)) - 1) - h)) (fun h=>h) (fun x=> !decide (x<0))) ((lo:Int),(hi:Int))).bind (eg (Gr rec (A++U++V++B) ((A.length:Nat):Int) ((A.length+U.length:Nat):Int) ((A.length+U.length+V.length:Nat):Int)))=some ((),A++W++B)/\kP lt W/\SP lt (U++V) W:=by
 have wm:kZ ((A.length:Nat):Int) ((A.length+U.length+V.length:Nat):Int)=((mid:Nat):Int):=by rw[vi _ _ oM,hmid]
 let q:Nat->Bool:=fun h=>match U[h - A.length]?,V[mid - 1 - h]? with
  |some u,some v=> !lt v u
  |_,_=>true
 have hx:∀ h,lo<=h->h<hi->∃ u v,U[h - A.length]?=some u/\V[mid - 1 - h]?=some v/\q h= !lt v u:=by
  intro h g1 g2
  have a1:h - A.length<U.length:=by omega
  have a2:mid - 1 - h<V.length:=by omega
  refine⟨_,_,K6 a1,K6 a2, ?_⟩
  simp only[q,K6 a1,K6 a2]
 obtain⟨r,r1,r2,r3,r4,r5⟩:=Cn (R:=Unit×List α) (c:=c) (L:=A++U++V++B) (I:=fun h=>IntKind.i64.wrap (IntKind.i64.wrap (IntKind.i64.wrap (kZ ((A.length:Nat):Int) ((A.length+U.length+V.length:Nat):Int)+((A.length+U.length:Nat):Int)) - 1) - h)) (J:=fun h=>h) (T:=fun x=> !decide (x<0)) q lo hi oM (by
  intro h g1 g2
  obtain⟨u,v,e1,e2,e3⟩:=hx h g1 g2
  have b1:=Gs A U V B (h - A.length) oM
  have b2:=Gt A U V B (mid - 1 - h) oM
  rw[e1] at b1
  rw[e2] at b2
  obtain⟨z,z1,z2⟩:=xg hc (qV v (K8 e2)) (qU u (K8 e1)) b2 b1
  refine⟨z,fun{R} k=> ?_,by rw[e3,<-z2]⟩
  rw[wm,aZ (((mid:Nat):Int)+((A.length+U.length:Nat):Int)) oM oM,aZ (((mid:Nat):Int)+((A.length+U.length:Nat):Int) - 1) oM oM,aZ _ oM oM,
   show(((mid:Nat):Int)+((A.length+U.length:Nat):Int) - 1 - (h:Int))=((A.length+U.length+(mid - 1 - h):Nat):Int) by omega,show(h:Int)=((A.length+(h - A.length):Nat):Int) by omega]
  exact z1 k) (hi - lo) lo hi oM (K9 _) h2 (K9 _) (.inl rfl) (.inl rfl)
 rw[r3]
 refine D5 O hr A U V B qU qV hU hV hb r (r - A.length) (mid - r) oM oM oM oM hn ?_ ?_
 ·rcases r4 with r4|r4
  ·rcases h6 with h6|h6
   ·exact .inl oM
   ·exact .inr (.inl oM)
  ·rcases Mm r1 with r1|r1
   ·obtain⟨u,v,e1,e2,e3⟩:=hx (r - 1) oM oM
    refine .inr (.inr ⟨u,v, ?_, ?_, ?_⟩)
    ·rw[show r - A.length - 1=r - 1 - A.length by omega];exact e1
    ·rw[show mid - r=mid - 1 - (r - 1) by omega];exact e2
    ·rw[e3] at r4;simpa using r4
   ·rcases h6 with h6|h6
    ·exact .inl oM
    ·exact .inr (.inl oM)
 ·rcases r5 with r5|r5
  ·rcases h7 with h7|h7
   ·exact .inr (.inl oM)
   ·exact .inl oM
  ·rcases Mm r2 with r2|r2
   ·obtain⟨u,v,e1,e2,e3⟩:=hx r oM oM
    refine .inr (.inr ⟨u,v, ?_,e1, ?_⟩)
    ·rw[show mid - r - 1=mid - 1 - r by omega];exact e2
    ·rw[e3] at r5;simpa using r5
   ·rcases h7 with h7|h7
    ·exact .inr (.inl oM)
    ·exact .inl oM
theorem HT {Q:α->Prop} {c:α->α->Option Int} {lt:α->α->Bool} (O:ny lt) (hc:C5 Q c lt) (A V B:List α) (x:α) (qx:Q x) (qV:∀ v∈V,Q v) (hV:kP lt V) (hb:A.length+V.length+B.length+1<=1152921504606846976):
  ∃ W,(bg (Eh c (A++[x]++V++B) (fun h=>h) (fun _=>((A.length:Nat):Int)) (fun x=>decide (x<0))) (((A.length+1:Nat):Int),((A.length+1+V.length:Nat):Int))).bind (eg fun s=>(bg (J9 s.1) ((A++[x]++V++B),((A.length:Nat):Int))).bind (eg fun s=>some ((),s.1)))=some ((),A++W++B)/\kP lt W/\SP lt ([x]++V) W:=by
 let q:Nat->Bool:=fun h=>match V[h - (A.length+1)]? with
  |some v=>lt v x
  |_=>true
 have hx:∀ h,A.length+1<=h->h<A.length+1+V.length->∃ v,V[h - (A.length+1)]?=some v/\q h=lt v x:=by
  intro h g1 g2
  have a2:h - (A.length+1)<V.length:=by omega
  refine⟨_,K6 a2, ?_⟩
  simp only[q,K6 a2]
 obtain⟨r,r1,r2,r3,r4,r5⟩:=Cn (R:=Unit×List α) (c:=c) (L:=A++[x]++V++B) (I:=fun h=>h) (J:=fun _=>((A.length:Nat):Int)) (T:=fun x=>decide (x<0)) q (A.length+1) (A.length+1+V.length) oM (by
  intro h g1 g2
  obtain⟨v,e2,e3⟩:=hx h g1 g2
  have b1:=Gs A [x] V B 0 oS
  have b2:=Gt A [x] V B (h - (A.length+1)) oM
  rw[e2] at b2
  obtain⟨z,z1,z2⟩:=xg hc (qV v (K8 e2)) qx b2 b1
  refine⟨z,fun{R} k=> ?_,by rw[e3,<-z2]⟩
  rw[show(h:Int)=((A.length+[x].length+(h - (A.length+1)):Nat):Int) by simp only[K7,Lf];omega]
  exact z1 k) V.length (A.length+1) (A.length+1+V.length) oM (K9 _) oM (K9 _) (.inl rfl) (.inl rfl)
 have p1:∀ v∈V.take (r - (A.length+1)),lt v x=true:=pP hV (P:=fun w=>lt w x=true) O (fun w w' h g=>O.lt_left h g) (by
  rcases Mm r1 with r1|r1
  ·rcases r4 with r4|r4
   ·exact .inl oM
   ·obtain⟨v,e2,e3⟩:=hx (r - 1) oM oM
    exact .inr ⟨v,by rw[show r - (A.length+1) - 1=r - 1 - (A.length+1) by omega];exact e2,by rw[<-e3];exact r4⟩
  ·exact .inl oM)
 have p2:∀ v∈V.drop (r - (A.length+1)),lt v x=false:=sE hV (P:=fun w=>lt w x=false) (fun w w' h g=>O.tr x w w' g h) (by
  rcases Mm r2 with r2|r2
  ·rcases r5 with r5|r5
   ·exact .inl oM
   ·obtain⟨v,e2,e3⟩:=hx r oM oM
    exact .inr ⟨v,e2,by rw[<-e3];exact r5⟩
  ·exact .inl oM)
 have hk:(V.take (r - (A.length+1))).length=r - (A.length+1):=by rw[Lb];omega
 have e:=Lg (r - (A.length+1)) V
 generalize V.take (r - (A.length+1))=V1 at *
 generalize V.drop (r - (A.length+1))=V2 at *
 subst e
 have hs:=ia.1 hV
 refine⟨V1++x::V2, ?_, ?_, ?_⟩
 ·rw[r3]
  simp only[K3,eg]
  rw[show A++[x]++(V1++V2)++B=A++x::V1++(V2++B) by simp,Gn x (V2++B) V1 A r (by simp only[K4] at hb;omega) oM]
  simp[eg]
 ·exact ia.2 ⟨hs.1,List.pairwise_cons.2 ⟨p2,hs.2.1⟩,fun a ha b hb=>by
   rcases Li.1 hb with rfl|hb
   ·exact O.asym _ _ (p1 a ha)
   ·exact hs.2.2 a ha b hb⟩
 ·rw[<-Lc,show V1++x::V2=(V1++[x])++V2 by simp]
  exact(SP.swap O (fun u hu v hv=>by rw[LA.1 hu];exact p1 v hv)).app (SP.refl lt V2)
theorem HU {Q:α->Prop} {c:α->α->Option Int} {lt:α->α->Bool} (O:ny lt) (hc:C5 Q c lt) (A U B:List α) (y:α) (qy:Q y) (qU:∀ u∈U,Q u) (hU:kP lt U) (hb:A.length+U.length+B.length+1<=1152921504606846976):
  ∃ W,(bg (Eh c (A++U++[y]++B) (fun _=>((A.length+U.length:Nat):Int)) (fun h=>h) (fun x=> !decide (x<0))) (((A.length:Nat):Int),((A.length+U.length:Nat):Int))).bind (eg fun s=>(bg (Jw s.1) ((A++U++[y]++B),((A.length+U.length:Nat):Int))).bind (eg fun s=>some ((),s.1)))=some ((),A++W++B)/\kP lt W/\SP lt (U++[y]) W:=by
 let q:Nat->Bool:=fun h=>match U[h - A.length]? with
  |some u=> !lt y u
  |_=>true
 have hx:∀ h,A.length<=h->h<A.length+U.length->∃ u,U[h - A.length]?=some u/\q h= !lt y u:=by
  intro h g1 g2
  have a2:h - A.length<U.length:=by omega
  refine⟨_,K6 a2, ?_⟩
  simp only[q,K6 a2]
 obtain⟨r,r1,r2,r3,r4,r5⟩:=Cn (R:=Unit×List α) (c:=c) (L:=A++U++[y]++B) (I:=fun _=>((A.length+U.length:Nat):Int)) (J:=fun h=>h) (T:=fun x=> !decide (x<0)) q A.length (A.length+U.length) oM (by
  intro h g1 g2
  obtain⟨v,e2,e3⟩:=hx h g1 g2
  have b1:=Gt A U [y] B 0 oS
  have b2:=Gs A U [y] B (h - A.length) oM
  rw[e2] at b2
  obtain⟨z,z1,z2⟩:=xg hc qy (qU v (K8 e2)) b1 b2
  refine⟨z,fun{R} k=> ?_,by rw[e3,<-z2]⟩
  rw[show(h:Int)=((A.length+(h - A.length):Nat):Int) by omega]
  exact z1 k) U.length A.length (A.length+U.length) oM (K9 _) oM (K9 _) (.inl rfl) (.inl rfl)
 have p1:∀ v∈U.take (r - A.length),lt y v=false:=pP hU (P:=fun w=>lt y w=false) O (fun w w' h g=>O.tr w' w y h g) (by
  rcases Mm r1 with r1|r1
  ·rcases r4 with r4|r4
   ·exact .inl oM
   ·obtain⟨v,e2,e3⟩:=hx (r - 1) oM oM
    exact .inr ⟨v,by rw[show r - A.length - 1=r - 1 - A.length by omega];exact e2,by rw[e3] at r4;simpa using r4⟩
  ·exact .inl oM)
 have p2:∀ v∈U.drop (r - A.length),lt y v=true:=sE hU (P:=fun w=>lt y w=true) (fun w w' h g=>O.lt_right h g) (by
  rcases Mm r2 with r2|r2
  ·rcases r5 with r5|r5
   ·exact .inl oM
   ·obtain⟨v,e2,e3⟩:=hx r oM oM
    exact .inr ⟨v,e2,by rw[e3] at r5;simpa using r5⟩
  ·exact .inl oM)
 have hk:(U.take (r - A.length)).length=r - A.length:=by rw[Lb];omega
 have e:=Lg (r - A.length) U
 generalize U.take (r - A.length)=U1 at *
 generalize U.drop (r - A.length)=U2 at *
 subst e
 have hs:=ia.1 hU
 refine⟨U1++y::U2, ?_, ?_, ?_⟩
 ·rw[r3]
  simp only[K3,eg]
  have:=Gq y (A++U1) U2.length U2 B (K9 _) (by simp only[K4] at hb⊢;omega)
  rw[show A++(U1++U2)++[y]++B=A++U1++U2++y::B by simp,show A.length+(U1++U2).length=(A++U1).length+U2.length by simp;omega,show r=(A++U1).length by rw[K4];omega,this]
  simp[eg]
 ·exact ia.2 ⟨hs.1,List.pairwise_cons.2 ⟨fun v hv=>O.asym _ _ (p2 v hv),hs.2.1⟩,fun a ha b hb=>by
   rcases Li.1 hb with rfl|hb
   ·exact p1 a ha
   ·exact hs.2.2 a ha b hb⟩
 ·rw[Lc]
  exact(SP.refl lt U1).app (SP.swap O (fun u hu v hv=>by rw[LA.1 hv];exact p2 u hu))
theorem HV {Q:α->Prop} {c:α->α->Option Int} {lt:α->α->Bool} (O:ny lt) (hc:C5 Q c lt):∀ fu,Br Q lt (2^fu) (D3 c fu):=by
 intro fu
 induction fu with
 |zero=>
  intro A U V B hU hV _ _ _ _ hn _
  have:=Mr.2 hU
  have:=Mr.2 hV
  simp at hn;omega
 |succ fu ih=>
  intro A U V B hU hV qU qV sU sV hn hb
  have lU:=Mr.2 hU
  have lV:=Mr.2 hV
  rw[Nat.pow_succ] at hn
  have w1:IntKind.i64.wrap (((A.length+U.length:Nat):Int) - ((A.length:Nat):Int))=((U.length:Nat):Int):=by rw[aZ _ oM oM];omega
  have w2:IntKind.i64.wrap (((A.length+U.length+V.length:Nat):Int) - ((A.length+U.length:Nat):Int))=((V.length:Nat):Int):=by rw[aZ _ oM oM];omega
  show∃ W,Jn c (D3 c fu) _ _ _ _=_/\_
  unfold Jn
  rw[w1,w2]
  rcases Lx 1 U.length with h1|h1
  ·have d1:decide (((U.length:Nat):Int)=1)=false:=by simp;omega
   rw[d1]
   rcases Lx 1 V.length with h2|h2
   ·have d2:decide (((V.length:Nat):Int)=1)=false:=by simp;omega
    rw[d2]
    have wm:kZ ((A.length:Nat):Int) ((A.length+U.length+V.length:Nat):Int)=(((A.length+(A.length+U.length+V.length))/2:Nat):Int):=vi _ _ oM
    show∃ W,(bif decide _ then _ else _)=_/\_
    by_cases hm:(A.length+(A.length+U.length+V.length))/2<A.length+U.length
    ·have d3:decide (kZ ((A.length:Nat):Int) ((A.length+U.length+V.length:Nat):Int)<((A.length+U.length:Nat):Int))=true:=by rw[wm];simp only[K_];omega
     rw[d3]
     dsimp only[cond_true]
     have w3:IntKind.i64.wrap (IntKind.i64.wrap (kZ ((A.length:Nat):Int) ((A.length+U.length+V.length:Nat):Int)+((A.length+U.length:Nat):Int)) - ((A.length+U.length+V.length:Nat):Int))=(((A.length+(A.length+U.length+V.length))/2+(A.length+U.length) - (A.length+U.length+V.length):Nat):Int):=by
      rw[wm,aZ ((((A.length+(A.length+U.length+V.length))/2:Nat):Int)+((A.length+U.length:Nat):Int)) oM oM,aZ _ oM oM];omega
     have:=Gv O hc ih A U V B qU qV sU sV hb oM ((A.length+(A.length+U.length+V.length))/2+(A.length+U.length) - (A.length+U.length+V.length)) ((A.length+(A.length+U.length+V.length))/2) ((A.length+(A.length+U.length+V.length))/2) rfl oM oM oM oM oM (.inr oM) (.inr rfl)
     rw[w3]
     rw[<-wm] at this
     exact this
    ·have d3:decide (kZ ((A.length:Nat):Int) ((A.length+U.length+V.length:Nat):Int)<((A.length+U.length:Nat):Int))=false:=by rw[wm];simp only[Lp];omega
     rw[d3]
     dsimp only[cond_false]
     exact Gv O hc ih A U V B qU qV sU sV hb oM A.length (A.length+U.length) ((A.length+(A.length+U.length+V.length))/2) rfl oM oM oM oM oM (.inl rfl) (.inl rfl)
   ·have hv:V.length=1:=by omega
    have d2:decide (((V.length:Nat):Int)=1)=true:=by rw[hv];rfl
    rw[d2]
    dsimp only[cond_true,cond_false]
    match V,hv with
    |[y],_=>exact HU O hc A U B y (qV y oS) qU sU (by simp at hb;omega)
  ·have hu:U.length=1:=by omega
   have d1:decide (((U.length:Nat):Int)=1)=true:=by rw[hu];rfl
   rw[d1]
   dsimp only[cond_true]
   match U,hu with
   |[x],_=>exact HT O hc A V B x (qU x oS) qV sV (by simp at hb;omega)
end
section
variable {α:Type}
inductive uW (lt:α->α->Bool) (bs:Nat):List α->Prop
 |last {U:List α}:U.length<=bs->kP lt U->uW lt bs U
 |cons {U L:List α}:U.length=bs->kP lt U->uW lt bs L->uW lt bs (U++L)
theorem uW.split {lt:α->α->Bool} {bs:Nat} {T:List α} (h:uW lt bs T) (hl:bs<=T.length):∃ U L,T=U++L/\U.length=bs/\kP lt U/\uW lt bs L:=by
 cases h with
 |last h1 h2=>exact⟨T,[],by simp,by omega,h2,.last oS List.Pairwise.nil⟩
 |cons h1 h2 h3=>exact⟨_,_,rfl,h1,h2,h3⟩
theorem uW.one {lt:α->α->Bool} {bs:Nat} {T:List α} (h:uW lt bs T) (hl:T.length<=bs):kP lt T:=by
 cases h with
 |last h1 h2=>exact h2
 | @cons U L h1 h2 h3=>
  rw[K4] at hl
  have:L=[]:=Ld.1 oM
  rw[this,Lr];exact h2
noncomputable def HW (c:α->α->Option Int) (n:Int):List α×Int×Int->Option ((List α×Int×Int)⊕((List α×Int×Int)⊕(Unit×List α))):=fun s=>
 bif decide (s.2.2<=n) then(D0 c s.1 s.2.1 s.2.2).bind fun y=>some (.inl (y.2,s.2.2,IntKind.i64.wrap (s.2.2+20))) else gm (some (.inl (s.1,s.2.1,s.2.2)))
noncomputable def HX (c:α->α->Option Int) (fu:Nat) (n bs:Int):List α×Int×Int->Option ((List α×Int×Int)⊕((List α×Int×Int)⊕((List α×Int)⊕((List α×Int)⊕(Unit×List α))))):=fun t=>
 bif decide (t.2.2<=n) then(D3 c fu t.1 t.2.1 (IntKind.i64.wrap (t.2.1+bs)) t.2.2).bind fun y=>some (.inl (y.2,t.2.2,IntKind.i64.wrap (t.2.2+IntKind.i64.wrap (2 * bs)))) else gm (some (.inl (t.1,t.2.1,t.2.2)))
noncomputable def Jo (c:α->α->Option Int) (fu:Nat) (n bs:Int):List α×Int×Int->Option ((List α×Int)⊕((List α×Int)⊕(Unit×List α))):=fun t=>
 bif decide (IntKind.i64.wrap (t.2.1+bs)<n) then(D3 c fu t.1 t.2.1 (IntKind.i64.wrap (t.2.1+bs)) n).bind fun y=>some (.inl (y.2,IntKind.i64.wrap (bs * 2))) else some (.inl (t.1,IntKind.i64.wrap (bs * 2)))
noncomputable def D6 (c:α->α->Option Int) (fu:Nat) (n:Int):List α×Int->Option ((List α×Int)⊕((List α×Int)⊕(Unit×List α))):=fun s=>
 bif decide (s.2<n) then(bg (HX c fu n s.2) (s.1,0,IntKind.i64.wrap (2 * s.2))).bind (eg (Jo c fu n s.2)) else gm (some (.inl (s.1,s.2)))
noncomputable def J_ (c:α->α->Option Int) (fu:Nat) (L:List α) (n:Int):Option (Unit×List α):=
 (bg (HW c n) (L,0,20)).bind (eg fun s=>(D0 c s.1 s.2.1 n).bind fun y=>(bg (D6 c fu n) (y.2,20)).bind (eg fun s=>some ((),s.1)))
theorem D7 {Q:α->Prop} {c:α->α->Option Int} {lt:α->α->Bool} (O:ny lt) (hc:C5 Q c lt) (K:List α->Option (Unit×List α)):∀ (k:Nat) (D T:List α) (n:Nat),(∀ x∈T,Q x)->T.length<=k->n=D.length+T.length->n<=137438953472->
  ∃ T',(bg (HW c (n:Int)) (D++T,((D.length:Nat):Int),((D.length+20:Nat):Int))).bind (eg fun s=>(D0 c s.1 s.2.1 (n:Int)).bind fun y=>K y.2)=K (D++T')/\uW lt 20 T'/\SP lt T T':=by
 intro k
 induction k using Nat.strongRecOn with
 |ind k ih=>
  intro D T n hQ hk hn hb
  rcases Lx T.length 20 with h|h
  ·have hd:decide (((D.length+20:Nat):Int)<=(n:Int))=false:=by simp;omega
   obtain⟨W,w1,w2,w3⟩:=C6 O hc D T [] hQ ((D.length:Nat):Int) (n:Int) rfl oM oM
   refine⟨W, ?_,.last (by rw[<-w3.1.length_eq];omega) w2,w3⟩
   rw[ec (a:= .inl (D++T,((D.length:Nat):Int),((D.length+20:Nat):Int)))]
   ·simp only[Lr] at w1
    simp only[K3,eg,w1]
   ·unfold HW
    dsimp only
    rw[hd];rfl
  ·have hd:decide (((D.length+20:Nat):Int)<=(n:Int))=true:=by simp;omega
   have e:=Lg 20 T
   have l1:(T.take 20).length=20:=by rw[Lb];omega
   have l2:(T.drop 20).length=T.length - 20:=L5
   generalize T.take 20=U at e l1
   generalize T.drop 20=T2 at e l2
   subst e
   obtain⟨W,w1,w2,w3⟩:=C6 O hc D U T2 (fun x hx=>hQ x (Mf _ hx)) ((D.length:Nat):Int) ((D.length+20:Nat):Int) rfl (by rw[l1]) oM
   have lW:W.length=20:=by rw[<-w3.1.length_eq,l1]
   obtain⟨T',t1,t2,t3⟩:=ih (k - 20) oM (D++W) T2 n (fun x hx=>hQ x (List.mem_append_right _ hx)) oM (by rw[K4] at hn⊢;omega) hb
   refine⟨W++T', ?_,.cons lW w2 t2,w3.app t3⟩
   rw[gu (s':=(D++W++T2,(((D++W).length:Nat):Int),(((D++W).length+20:Nat):Int)))]
   ·rw[t1,Lc]
   ·unfold HW
    dsimp only
    rw[hd,<-Lc,w1,aZ _ oM oM,K4,lW]
    rfl
theorem D8 {Q:α->Prop} {c:α->α->Option Int} {lt:α->α->Bool} (O:ny lt) (hc:C5 Q c lt) {fu:Nat} (hfu:137438953472<=2^fu) (bs:Nat) (hbs:0<bs):∀ (k:Nat) (D T:List α) (n:Nat),(∀ x∈T,Q x)->T.length<=k->n=D.length+T.length->n<=137438953472->bs<=137438953472->uW lt bs T->
  ∃ T',(bg (HX c fu (n:Int) (bs:Int)) (D++T,((D.length:Nat):Int),((D.length+2 * bs:Nat):Int))).bind (eg (Jo c fu (n:Int) (bs:Int)))=some (.inl (D++T',((2 * bs:Nat):Int)))/\uW lt (2 * bs) T'/\SP lt T T':=by
 intro k
 induction k using Nat.strongRecOn with
 |ind k ih=>
  intro D T n hQ hk hn hb hb2 hT
  have hR:=HV O hc fu
  have w5:IntKind.i64.wrap ((bs:Int) * 2)=((2 * bs:Nat):Int):=by rw[aZ _ oM oM];omega
  have w6:IntKind.i64.wrap (2 * (bs:Int))=((2 * bs:Nat):Int):=by rw[aZ _ oM oM];omega
  have w7:IntKind.i64.wrap (((D.length:Nat):Int)+(bs:Int))=((D.length+bs:Nat):Int):=by rw[aZ _ oM oM];omega
  rcases Lx T.length (2 * bs) with h|h
  ·have hd:decide (((D.length+2 * bs:Nat):Int)<=(n:Int))=false:=by simp only[Lp];omega
   rw[ec (a:= .inl (D++T,((D.length:Nat):Int),((D.length+2 * bs:Nat):Int)))]
   ·simp only[K3,eg]
    unfold Jo
    dsimp only
    rw[w5,w7]
    rcases Lx bs T.length with h2|h2
    ·have hd2:decide (((D.length+bs:Nat):Int)<(n:Int))=true:=by simp only[K_];omega
     obtain⟨U,L,rfl,l1,s1,b1⟩:=hT.split oM
     rw[K4] at h h2 hn
     obtain⟨W,g1,g2,g3⟩:=hR D U L [] (by intro h0;rw[h0] at l1;simp at l1;omega) (by intro h0;rw[h0] at h2;simp at h2;omega) (fun x hx=>hQ x (Mf _ hx)) (fun x hx=>hQ x (List.mem_append_right _ hx)) s1 (b1.one oM) oM oT
     refine⟨W, ?_,.last (by rw[<-g3.1.length_eq,K4];omega) g2,g3⟩
     rw[hd2,show n=D.length+U.length+L.length by omega,<-l1]
     simp only[Lr] at g1
     rw[<-Lc,g1]
     rfl
    ·have hd2:decide (((D.length+bs:Nat):Int)<(n:Int))=false:=by simp only[Lp];omega
     refine⟨T, ?_,.last oM (hT.one h2),SP.refl _ _⟩
     rw[hd2];rfl
   ·unfold HX
    dsimp only
    rw[hd];rfl
  ·have hd:decide (((D.length+2 * bs:Nat):Int)<=(n:Int))=true:=by simp only[K_];omega
   obtain⟨U,L,rfl,l1,s1,b1⟩:=hT.split oM
   rw[K4] at h hn hk
   obtain⟨V,L,rfl,l2,s2,b2⟩:=b1.split oM
   rw[K4] at h hn hk
   obtain⟨W,g1,g2,g3⟩:=hR D U V L (by intro h0;rw[h0] at l1;simp at l1;omega) (by intro h0;rw[h0] at l2;simp at l2;omega) (fun x hx=>hQ x (by simp[hx])) (fun x hx=>hQ x (by simp[hx])) s1 s2 oM oM
   have lW:W.length=2 * bs:=by rw[<-g3.1.length_eq,K4];omega
   obtain⟨T',t1,t2,t3⟩:=ih (k - 2 * bs) oM (D++W) L n (fun x hx=>hQ x (by simp[hx])) oM (by rw[K4];omega) hb hb2 b2
   refine⟨W++T', ?_,.cons lW g2 t2, ?_⟩
   ·rw[gu (s':=(D++W++L,(((D++W).length:Nat):Int),(((D++W).length+2 * bs:Nat):Int)))]
    ·rw[t1,Lc]
    ·have w8:IntKind.i64.wrap (((D.length+2 * bs:Nat):Int)+((2 * bs:Nat):Int))=((D.length+2 * bs+2 * bs:Nat):Int):=by rw[aZ _ oM oM];omega
     unfold HX
     dsimp only
     rw[hd,w6,w7,w8,K4,lW]
     rw[l1,show D.length+bs+V.length=D.length+2 * bs by omega] at g1
     rw[show D++(U++(V++L))=D++U++V++L by simp,g1]
     rfl
   ·rw[<-Lc]
    exact g3.app t3
theorem D9 {Q:α->Prop} {c:α->α->Option Int} {lt:α->α->Bool} (O:ny lt) (hc:C5 Q c lt) {fu:Nat} (hfu:137438953472<=2^fu):∀ (k:Nat) (L:List α) (bs:Nat),(∀ x∈L,Q x)->L.length - bs<=k->0<bs->L.length<=137438953472->uW lt bs L->
  ∃ L' s,bg (D6 c fu ((L.length:Nat):Int)) (L,(bs:Int))=some (.inl (L',s))/\kP lt L'/\SP lt L L':=by
 intro k
 induction k using Nat.strongRecOn with
 |ind k ih=>
  intro L bs hQ hk h0 hb hL
  rcases Lx bs L.length with h|h
  ·have hd:decide ((bs:Int)<((L.length:Nat):Int))=true:=by simp only[K_];omega
   have w6:IntKind.i64.wrap (2 * (bs:Int))=((2 * bs:Nat):Int):=by rw[aZ _ oM oM];omega
   obtain⟨T',t1,t2,t3⟩:=D8 O hc hfu bs h0 L.length [] L L.length hQ (K9 _) oS hb oM hL
   have lT:=t3.1.length_eq
   obtain⟨L',s,g1,g2,g3⟩:=ih (k - bs) oM T' (2 * bs) (fun x hx=>hQ x (t3.1.mem_iff.2 hx)) oM oM oM t2
   refine⟨L',s, ?_,g2,t3.trans g3⟩
   rw[gu (s':=(T',((2 * bs:Nat):Int)))]
   ·rw[lT];exact g1
   ·unfold D6
    dsimp only
    rw[hd,w6]
    simp only[Lf,Lk,LF] at t1
    exact t1
  ·have hd:decide ((bs:Int)<((L.length:Nat):Int))=false:=by simp only[Lp];omega
   refine⟨L,bs,ec ?_,hL.one h,SP.refl _ _⟩
   unfold D6
   dsimp only
   rw[hd];rfl
theorem HY {Q:α->Prop} {c:α->α->Option Int} {lt:α->α->Bool} (O:ny lt) (hc:C5 Q c lt) {fu:Nat} (hfu:137438953472<=2^fu) (L:List α) (hQ:∀ x∈L,Q x) (hb:L.length<=137438953472):
  ∃ W,J_ c fu L ((L.length:Nat):Int)=some ((),W)/\kP lt W/\SP lt L W:=by
 obtain⟨T',t1,t2,t3⟩:=D7 O hc (fun M=>(bg (D6 c fu ((L.length:Nat):Int)) (M,20)).bind (eg fun s=>some ((),s.1))) L.length [] L L.length hQ (K9 _) oS hb
 simp only[Lf,Lk,LF] at t1
 have lT:=t3.1.length_eq
 obtain⟨L',s,g1,g2,g3⟩:=D9 O hc hfu T'.length T' 20 (fun x hx=>hQ x (t3.1.mem_iff.2 hx)) oM oM oM t2
 refine⟨L', ?_,g2,t3.trans g3⟩
 refine Eq.trans t1 ?_
 rw[<-lT] at g1
 have g1':bg (D6 c fu ((L.length:Nat):Int)) (T',20)=some (.inl (L',s)):=g1
 rw[g1'];rfl
end
theorem Jp:137438953472<=2^FU:=by
 have h:2^37<=2^FU:=Nat.pow_le_pow_right oD (LO oD I_)
 exact LO oD h
section
variable (f:FuncId) (c:List DV) (p:ac->ac->Option Int) (h:∀ a0 a1 r,p a0 a1=some r->ae Tryz.prog f ([.agg (ab a0),.agg (ab a1)]++c) (.int .i64 r))
theorem xh (L:List ac) (x1 x2 x3:Int):bR L x1 x2 x3 f c p h=xe L x1 x2 x3:=by
 unfold bR pH;dsimp only
 rfl
theorem xL (L:List ac) (x1 x2 x3:Int):bY L x1 x2 x3 f c p h=HR L x1 x2 x3:=by
 unfold bY pI;dsimp only
 simp only[xh]
 rfl
theorem xM (L:List ac) (x1 x2:Int):bt L x1 x2 f c p h=D0 p L x1 x2:=by
 unfold bt pG;dsimp only
 rfl
theorem xN:∀ (fu:Nat) (L:List ac) (x1 x2 x3:Int),aM fu L x1 x2 x3 f c p h=D3 p fu L x1 x2 x3:=by
 intro fu
 induction fu with
 |zero=>intro L x1 x2 x3;exact eR ..
 |succ fu ih=>
  intro L x1 x2 x3
  rw[eT];unfold pJ;dsimp only;simp only[eS]
  simp only[xL,ih]
  rfl
theorem xO (L:List ac) (n:Int):bZ L n f c p h=J_ p FU L n:=by
 unfold bZ pK;dsimp only
 simp only[xM,xN]
 rfl
end
theorem xP {f:FuncId} {c:List DV} {p:ac->ac->Option Int} (h:∀ a0 a1 r,p a0 a1=some r->ae Tryz.prog f ([.agg (ab a0),.agg (ab a1)]++c) (.int .i64 r)) {Q:ac->Prop} {lt:ac->ac->Bool} (O:ny lt) (hc:C5 Q p lt) (L:List ac) (hQ:∀ x∈L,Q x) (hb:L.length<=137438953472):
  ∃ W,aS L f c p h=some ((),W)/\kP lt W/\SP lt L W:=by
 obtain⟨W,g1,g2⟩:=HY O hc Jp L hQ hb
 refine⟨W, ?_,g2⟩
 unfold aS pL;dsimp only
 rw[xO,g1]
 rfl
def xR (a:RA):RA:=match a.flevels[2]? with|none=>a|some x=>⟨a.flevels.set 2 ⟨x.fheaded,x.fref,x.fmany+1,x.frefs⟩,a.fnotes⟩
noncomputable def d5 (s:aa) (i:Int) (a:RA):RA:=
 if jo s.fTag=true then ob s (eq s.fTag - 1) i a else if 0<eq s.fTag then lC s (eq s.fTag - 1) i a else if a.flevels.length<3 then lA a 7 i else xR a
noncomputable def fN:List aa->Nat->RA->RA
 |[],_,a=>a
 |s::l,i,a=>fN l (i+1) (d5 s (i:Int) a)
noncomputable def xm (l:List aa):List Nt:=(bP 0 (l.length:Int) (fN l 0 ⟨[],[]⟩)).fnotes
theorem xS (s:aa):∀ (l:List aa) (i:Nat) (a:RA),fN (l++[s]) i a=d5 s ((i+l.length:Nat):Int) (fN l i a)
 |[],i,a=>by simp[fN]
 |x::l,i,a=>by
  show fN (l++[s]) (i+1) _=_
  rw[xS s l (i+1),show i+1+l.length=i+(x::l).length by simp;omega]
  rfl
theorem GS {ref:List UInt8} {i:Int} {n:Nat} {L:List RO} {N:List Nt} {m:Nat} (h1:N.length<=m) (h2:∀ x∈L,0<=x.fmany/\x.fmany<=(n:Int)+1/\x.frefs.length<=n):
  (uq ref i ⟨L,N⟩).fnotes.length<=m+1/\∀ x∈(uq ref i ⟨L,N⟩).flevels,0<=x.fmany/\x.fmany<=(n:Int)+2/\x.frefs.length<=n+1:=by
 rcases MG L with rfl|⟨P,x,rfl⟩
 ·rw[rv];exact⟨by simp only;omega,by simp⟩
 ·rw[MH] at h2⊢
  rw[mO]
  refine⟨?_, ?_⟩
  ·simp only[K4]
   unfold yS
   split<;>simp<;>omega
  ·intro y hy
   rcases Le.1 hy with hy|hy
   ·have:=h2 y (Mf _ hy);omega
   ·rw[LA.1 hy]
    have:=h2 x oS
    unfold lB
    refine⟨by simp only;omega,by simp only;omega, ?_⟩
    simp only
    split
    ·simp only[K4,K7,Lf];omega
    ·omega
theorem EA {s:aa} {lv:Nat} {i:Int} {n:Nat} {a:RA} (hlv:lv<=2) (h:uo n a):uo (n+1) (ob s lv i a):=by
 obtain⟨b1,b2,b3⟩:=h
 have l1:(bP lv i a).flevels.length<=lv:=by simp only[bP,Lb];omega
 have n1:(bP lv i a).fnotes.length<=10 * n+3:=by simp only[bP,K4,Ll];omega
 have m1:∀ x∈(bP lv i a).flevels,0<=x.fmany/\x.fmany<=(n:Int)+1/\x.frefs.length<=n:=fun x hx=>b3 x (Lq hx)
 have f1:(gI lv i (bP lv i a)).flevels.length<=lv/\(gI lv i (bP lv i a)).fnotes.length<=10 * n+4/\∀ x∈(gI lv i (bP lv i a)).flevels,0<=x.fmany/\x.fmany<=(n:Int)+1/\x.frefs.length<=n:=by
  unfold gI
  split
  ·refine⟨by simp only[K4,Ll];omega,by simp only[K4,K7,Lf];omega,fun x hx=> ?_⟩
   rcases Le.1 hx with hx|hx
   ·exact m1 x hx
   ·rw[List.eq_of_mem_replicate hx];simp[xq];omega
  ·exact⟨l1,by omega,m1⟩
 unfold ob
 simp only
 generalize gI lv i (bP lv i a)=b at f1
 have g1:(jp s i b).flevels=b.flevels/\(jp s i b).fnotes.length<=10 * n+5:=by
  unfold jp
  split
  ·exact⟨rfl,by omega⟩
  ·exact⟨rfl,by simp only[lA,K4,K7,Lf];omega⟩
 have g2:=GS (ref:=oa s.fElements) (i:=i) (n:=n) (L:=(jp s i b).flevels) (N:=(jp s i b).fnotes) g1.2 (by rw[g1.1];exact f1.2.2)
 have g3:=Ac (oa s.fElements) i (jp s i b)
 have hl:=f1.1
 rw[g1.1] at g3
 refine⟨?_, ?_, ?_⟩
 ·simp only[K4,K7,Lf];omega
 ·exact LO g2.1 oM
 ·intro x hx
  rcases Le.1 hx with hx|hx
  ·have:=g2.2 x hx;omega
  ·rw[LA.1 hx]
   refine⟨?_, ?_,by simp⟩<;>simp only<;>split<;>omega
theorem GU (ts:List (List UInt8)) (lv:Nat) (i:Int) (x:RO):(GR ts lv i x).length<=2:=by
 have q:∀ (c:Prop) [Decidable c] (y:Nt),(if c then([]:List Nt) else[y]).length<=1:=fun c _ y=>by split<;>simp
 unfold GR
 split
 ·split
  ·split
   ·rw[K4]
    exact Nat.add_le_add (q _ _) (q _ _)
   ·simp
  ·simp
 ·simp
theorem EB {s:aa} {lv:Nat} {i:Int} {n:Nat} {a:RA} (h:uo n a):uo (n+1) (lC s lv i a):=by
 obtain⟨b1,b2,b3⟩:=h
 have b3':∀ x∈a.flevels,0<=x.fmany/\x.fmany<=((n+1:Nat):Int)+1/\x.frefs.length<=n+1:=fun x hx=>by have:=b3 x hx;omega
 unfold lC
 split
 ·exact⟨b1,by simp only[lA,K4,K7,Lf];omega,b3'⟩
 ·split
  ·exact⟨b1,by omega,b3'⟩
  ·refine⟨?_, ?_,fun x hx=>b3' x (Lq hx)⟩
   ·rw[Lb];omega
   ·have:∀ t,(if s.fElements.all fQ=true then GR (s.fElements.map dA) lv i t else[⟨6,i⟩]).length<=2:=fun t=>by
     split
     ·exact GU _ _ _ _
     ·simp
    simp only[bP,K4,Ll]
    have:=this ‹RO›
    omega
theorem EC {s:aa} {i:Int} {n:Nat} {a:RA} (h:uo n a):uo (n+1) (d5 s i a):=by
 unfold d5
 split
 ·refine EA ?_ h
  unfold eq;split<;>(try split)<;>(try split)<;>omega
 ·split
  ·exact EB h
  ·obtain⟨b1,b2,b3⟩:=h
   have b3':∀ x∈a.flevels,0<=x.fmany/\x.fmany<=((n+1:Nat):Int)+1/\x.frefs.length<=n+1:=fun x hx=>by have:=b3 x hx;omega
   split
   ·exact⟨b1,by simp only[lA,K4,K7,Lf];omega,b3'⟩
   ·unfold xR
    split
    ·exact⟨b1,by omega,b3'⟩
    ·rename_i x hx
     refine⟨by rw[M7];exact b1,by simp only;omega,fun y hy=> ?_⟩
     rcases List.mem_or_eq_of_mem_set hy with hy|rfl
     ·exact b3' y hy
     ·have:=b3 x (K8 hx)
      simp only;omega
theorem Cs:∀ (l:List aa) (i:Nat) (a:RA),uo i a->uo (i+l.length) (fN l i a)
 |[],i,a,h=>h
 |s::l,i,a,h=>by
  have:=Cs l (i+1) _ (EC (s:=s) (i:=(i:Int)) h)
  rw[show i+(s::l).length=i+1+l.length by simp;omega]
  exact this
theorem KU:uo 0 ⟨[],[]⟩:=⟨by simp,by simp,by simp⟩
def JH (l:List aa):Prop:=l.length<=2000/\∀ s∈l,yO s.fElements
theorem H6 {l:List aa} (h:j6 l=0):JH l:=by
 unfold j6 at h
 split at h
 ·cases h
 ·refine⟨by omega,fun s hs=> ?_⟩
  have:=eU h s hs
  unfold sC at this
  split at this
  ·cases this
  ·split at this
   ·cases this
   ·exact⟨by omega,fun e he=>eU this e he⟩
def Gy (a b:Nt):Bool:=decide (a.fSegment<b.fSegment)||(decide (a.fSegment=b.fSegment)&&decide (a.fKind<b.fKind))
theorem Ct (a b:Nt):Gy a b=true↔a.fSegment<b.fSegment\/(a.fSegment=b.fSegment/\a.fKind<b.fKind):=by unfold Gy;simp
theorem H7 (a b:Nt):Gy a b=false↔¬ (a.fSegment<b.fSegment\/(a.fSegment=b.fSegment/\a.fKind<b.fKind)):=by rw[<-Ct];simp
theorem Kn:ny Gy where
 asym:=fun a b h=>by rw[Ct] at h;rw[H7];omega
 tr:=fun a b c h g=>by rw[H7] at *;omega
def tK (tag:List UInt8) (n:Nat):Nat:=if jo tag=true then eq tag else if 0<eq tag then(if n<eq tag then n else eq tag - 1) else n
def zT (tag:List UInt8) (n:Nat):Nat:=if jo tag=true then(n - (eq tag - 1))+(if n<eq tag - 1 then 1 else 0) else if 0<eq tag then(if n<eq tag then 1 else n - eq tag) else if n<3 then 1 else 0
theorem sH {tag:List UInt8} (h:jo tag=true):0<eq tag:=by
 unfold jo at h
 simp only[LV,K_] at h
 rcases h with(rfl|rfl)|rfl<;>decide
theorem GE (tag:List UInt8):eq tag<=3:=by
 unfold eq;split<;>(try split)<;>(try split)<;>omega
theorem Ej (s:aa) (lv:Nat) (i:Int) (a:RA):(ob s lv i a).flevels.length=lv+1/\a.fnotes.length+(a.flevels.length - lv)+(if a.flevels.length<lv then 1 else 0)<=(ob s lv i a).fnotes.length:=by
 have h1:(gI lv i (bP lv i a)).flevels.length=lv/\(gI lv i (bP lv i a)).fnotes.length=a.fnotes.length+(a.flevels.length - lv)+(if a.flevels.length<lv then 1 else 0):=by
  unfold gI
  simp only[bP,Lb]
  by_cases h:a.flevels.length<lv
  ·have hm:min lv a.flevels.length=a.flevels.length:=by omega
   rw[if_pos (by rw[hm];exact h),if_pos h]
   constructor
   ·show(a.flevels.take lv++List.replicate (lv - min lv a.flevels.length) xq).length=lv
    rw[K4,Ll,Lb,hm];omega
   ·show(a.fnotes++List.replicate (a.flevels.length - lv) _++[_]).length=_
    rw[K4,K4,Ll];rfl
  ·have hm:min lv a.flevels.length=lv:=by omega
   rw[if_neg (by rw[hm];omega),if_neg h]
   constructor
   ·show(a.flevels.take lv).length=lv
    rw[Lb,hm]
   ·show(a.fnotes++List.replicate (a.flevels.length - lv) _).length=_
    rw[K4,Ll];rfl
 unfold ob
 simp only
 generalize gI lv i (bP lv i a)=b at h1
 have h2:(jp s i b).flevels=b.flevels/\b.fnotes.length<=(jp s i b).fnotes.length:=by
  unfold jp
  split
  ·exact⟨rfl,K9 _⟩
  ·exact⟨rfl,by simp[lA]⟩
 generalize jp s i b=c at h2
 have h3:c.fnotes.length<=(uq (oa s.fElements) i c).fnotes.length:=by
  unfold uq
  split
  ·exact K9 _
  ·simp
 refine⟨?_,by omega⟩
 rw[K4,Ac,h2.1,h1.1]
 rfl
theorem Ek (s:aa) (lv:Nat) (i:Int) (a:RA):(lC s lv i a).flevels.length=(if a.flevels.length<=lv then a.flevels.length else lv)/\a.fnotes.length+(if a.flevels.length<=lv then 1 else a.flevels.length - (lv+1))<=(lC s lv i a).fnotes.length:=by
 unfold lC
 by_cases h:a.flevels.length<=lv
 ·rw[if_pos h,if_pos h,if_pos h]
  simp[lA]
 ·rw[if_neg h,if_neg h,if_neg h]
  obtain⟨x,hx⟩:=eH (show lv<a.flevels.length by omega)
  rw[hx]
  simp only[bP,Lb,K4,Ll]
  omega
theorem rr (s:aa) (i:Int) (a:RA):(d5 s i a).flevels.length=tK s.fTag a.flevels.length/\a.fnotes.length+zT s.fTag a.flevels.length<=(d5 s i a).fnotes.length:=by
 unfold d5 tK zT
 by_cases h:jo s.fTag=true
 ·have:=sH h
  rw[if_pos h,if_pos h,if_pos h]
  obtain⟨h1,h2⟩:=Ej s (eq s.fTag - 1) i a
  exact⟨by omega,by omega⟩
 ·rw[if_neg h,if_neg h,if_neg h]
  by_cases g:0<eq s.fTag
  ·rw[if_pos g,if_pos g,if_pos g]
   obtain⟨h1,h2⟩:=Ek s (eq s.fTag - 1) i a
   by_cases k:a.flevels.length<eq s.fTag
   ·rw[if_pos oM] at h1 h2
    rw[if_pos k,if_pos k]
    exact⟨h1,h2⟩
   ·rw[if_neg oM] at h1 h2
    rw[if_neg k,if_neg k]
    exact⟨h1,by omega⟩
  ·rw[if_neg g,if_neg g,if_neg g]
   by_cases k:a.flevels.length<3
   ·rw[if_pos k,if_pos k]
    simp[lA]
   ·rw[if_neg k,if_neg k]
    unfold xR
    split<;>simp
theorem Kj (tag:List UInt8) (n:Nat):zT tag n=0↔(jo tag=true/\n=eq tag - 1)\/(jo tag=false/\0<eq tag/\n=eq tag)\/(jo tag=false/\eq tag=0/\3<=n):=by
 unfold zT
 cases h:jo tag with
 |true=>
  simp only[LX]
  by_cases g:n<eq tag - 1
  ·rw[if_pos g];simp;omega
  ·rw[if_neg g];simp;omega
 |false=>
  simp only[Lm,LI]
  by_cases g:0<eq tag
  ·rw[if_pos g]
   by_cases k:n<eq tag
   ·rw[if_pos k];simp;omega
   ·rw[if_neg k];simp;omega
  ·rw[if_neg g]
   by_cases k:n<3
   ·rw[if_pos k];simp;omega
   ·rw[if_neg k];simp;omega
theorem vj:∀ (l:List aa) (i:Nat) (a:RA),a.fnotes.length<=(fN l i a).fnotes.length
 |[],_,_=>K9 _
 |s::l,i,a=>LO (by have:=(rr s (i:Int) a).2;omega) (vj l (i+1) _)
theorem mf:∀ (l m:List aa) (i:Nat) (a:RA),fN (l++m) i a=fN m (i+l.length) (fN l i a)
 |[],m,i,a=>rfl
 |s::l,m,i,a=>by
  show fN (l++m) (i+1) _=_
  rw[mf l m,show i+1+l.length=i+(s::l).length by simp;omega]
  rfl
theorem GF {l:List aa} (h:0<(fN l 0 ⟨[],[]⟩).fnotes.length):xm l≠[]:=by
 intro h0
 have:(xm l).length=0:=by rw[h0];rfl
 simp only[xm,bP,K4] at this
 omega
theorem Kl {l:List aa} (h:xm l=[]) {g:Nat} {s:aa} (hs:l[g]?=some s) (hT:0<eq s.fTag):xm (l.take g++l.drop (g+1))≠[]:=by
 have hg:=gD hs
 have e:l=l.take g++s::l.drop (g+1):=by
  have:=L6 (l:=l) (i:=g) hg
  rw[(K5.1 hs).2] at this
  rw[<-this,Lg]
 have hl:(xm l).length=0:=by rw[h];rfl
 simp only[xm,bP,K4,Ll] at hl
 rw[e,mf] at hl
 have hlen:(l.take g).length=g:=by rw[Lb];omega
 have hu:∀ r,fN (l.take g++r) 0 ⟨[],[]⟩=fN r g (fN (l.take g) 0 ⟨[],[]⟩):=fun r=>by rw[mf,hlen,LF]
 rw[LF,hlen] at hl
 generalize fN (l.take g) 0 ⟨[],[]⟩=a at hl hu
 have h3:=GE s.fTag
 obtain⟨k1,k2⟩:=rr s (g:Int) a
 cases hr:l.drop (g+1) with
 |nil=>
  rw[hr] at hl
  have hl':(d5 s (g:Int) a).fnotes.length+((d5 s (g:Int) a).flevels.length - 0)=0:=hl
  intro h0
  have:(xm (l.take g++[])).length=0:=by rw[h0];rfl
  simp only[xm,bP,K4,Ll] at this
  rw[hu] at this
  have this':a.fnotes.length+(a.flevels.length - 0)=0:=this
  unfold tK at k1
  unfold zT at k2
  by_cases q:jo s.fTag=true
  ·rw[if_pos q] at k1;omega
  ·rw[if_neg q,if_pos hT] at k1 k2
   by_cases q2:a.flevels.length<eq s.fTag
   ·rw[if_pos q2] at k2;omega
   ·omega
 |cons s' r=>
  rw[hr] at hl
  refine GF ?_
  rw[hu]
  refine Lz ?_ (vj r (g+1) (d5 s' (g:Int) a))
  have hl2:(fN r (g+1+1) (d5 s' ((g+1:Nat):Int) (d5 s (g:Int) a))).fnotes.length=0:=by
   have:(fN (s::s'::r) g a).fnotes.length=0:=by omega
   exact this
  have hl3:=vj r (g+1+1) (d5 s' ((g+1:Nat):Int) (d5 s (g:Int) a))
  obtain⟨m1,m2⟩:=rr s' ((g+1:Nat):Int) (d5 s (g:Int) a)
  obtain⟨n1,n2⟩:=rr s' (g:Int) a
  have a0:zT s.fTag a.flevels.length=0:=by omega
  have a1:zT s'.fTag (tK s.fTag a.flevels.length)=0:=by rw[<-k1];omega
  have a2:zT s'.fTag a.flevels.length≠0:=by
   have h5:jo s'.fTag=true->0<eq s'.fTag:=sH
   intro h6
   rw[Kj] at a0 a1 h6
   rcases a0 with⟨q,q1⟩|⟨q,q1,q2⟩|⟨q,q1,q2⟩
   ·have:tK s.fTag a.flevels.length=eq s.fTag:=by unfold tK;rw[if_pos q]
    rw[this] at a1
    rcases a1 with⟨u,u1⟩|⟨u,u1,u2⟩|⟨u,u1,u2⟩<;>rcases h6 with⟨v,v1⟩|⟨v,v1,v2⟩|⟨v,v1,v2⟩<;>first|omega|(rw[u] at v;cases v)|(have:=h5 u;omega)
   ·have:tK s.fTag a.flevels.length=eq s.fTag - 1:=by unfold tK;rw[if_neg (by rw[q];decide),if_pos hT,if_neg oM]
    rw[this] at a1
    rcases a1 with⟨u,u1⟩|⟨u,u1,u2⟩|⟨u,u1,u2⟩<;>rcases h6 with⟨v,v1⟩|⟨v,v1,v2⟩|⟨v,v1,v2⟩<;>first|omega|(rw[u] at v;cases v)|(have:=h5 u;omega)
   ·omega
  omega
def qf (tag:List UInt8) (ts:List (List UInt8)):aa:=⟨tag,ts.map fun t=>⟨[[t]]⟩⟩
theorem pS (tag:List UInt8) (ts:List (List UInt8)):(qf tag ts).fElements.all fQ=true:=by
 unfold qf
 simp only[List.all_map,Lj,Function.comp]
 intro t _;rfl
theorem pT (tag:List UInt8) (ts:List (List UInt8)):(qf tag ts).fElements.map dA=ts:=by
 unfold qf
 rw[MD]
 conv=>rhs;rw[<-List.map_id ts]
 exact LS fun t _=>rfl
theorem pW (tag a:List UInt8) (ts:List (List UInt8)):my (qf tag (a::ts)).fElements=a/\oa (qf tag (a::ts)).fElements=a:=⟨rfl,rfl⟩
theorem yL {s:aa} {lv:Nat} {i:Int} {a:RA} (hf:Ef s=true) (hl:a.flevels.length=lv):ob s lv i a=⟨(uq (oa s.fElements) i a).flevels++[⟨true,my s.fElements,if lv=2 then 1 else 0,[]⟩],(uq (oa s.fElements) i a).fnotes⟩:=by
 have h1:bP lv i a=a:=by
  unfold bP
  rw[Lu oM,show a.flevels.length - lv=0 by omega]
  simp
 have h2:gI lv i a=a:=by unfold gI;rw[if_neg oM]
 unfold ob jp
 simp only[h1,h2,hf,LX]
theorem yM {s:aa} {lv:Nat} {i:Int} {L:List RO} {x:RO} {N:List Nt} (hl:L.length=lv) {p q:List UInt8} (hs:s.fElements.all fQ=true) (ht:s.fElements.map dA=[p,q]) (hp:jn p=true) (hq:fx q=true) (hh:x.fheaded=true) (hm:qg p=x.fmany+(if lv=2 then 1 else 0)) (hr:q=x.fref):
  lC s lv i ⟨L++[x],N⟩=⟨L,N⟩:=by
 unfold lC
 rw[if_neg oT]
 have hx:(L++[x])[lv]?=some x:=by rw[<-hl];simp
 simp only[hx,hs,LX,ht]
 unfold GR
 simp only
 rw[if_pos ⟨hp,hq⟩,if_pos hh,if_pos hm,if_pos hr]
 unfold bP
 rw[show(L++[x]).length - (lv+1)=0 by simp;omega,<-hl]
 simp
theorem yN (s:aa) (i:Nat) (a:RA):fN [s] i a=d5 s (i:Int) a:=rfl
theorem zU {ref:List UInt8} {x:RO} {i:Int} (h:ref∉x.frefs):yS ref x i=[]:=by
 unfold yS
 rw[if_neg (fun g=>h g.2)]
theorem zV:∀ (segs:List aa),(∀ s∈segs,eq s.fTag=0)->∀ (i:Nat) (I G M:RO) (N:List Nt),fN segs i ⟨[I,G,M],N⟩=⟨[I,G,⟨M.fheaded,M.fref,M.fmany+(segs.length:Int),M.frefs⟩],N⟩
 |[],_,i,I,G,M,N=>by simp[fN]
 |s::segs,h,i,I,G,M,N=>by
  have h0:=h s oS
  have hh:jo s.fTag=false:=by
   cases e:jo s.fTag with
   |false=>rfl
   |true=>have:=sH e;omega
  have:d5 s (i:Int) ⟨[I,G,M],N⟩=⟨[I,G,⟨M.fheaded,M.fref,M.fmany+1,M.frefs⟩],N⟩:=by
   unfold d5
   rw[if_neg (by rw[hh];decide),if_neg oM,if_neg oS]
   rfl
  show fN segs (i+1) (d5 s (i:Int) _)=_
  rw[this,zV segs (fun s hs=>h s (Mv _ hs))]
  have:M.fmany+1+(segs.length:Int)=M.fmany+((s::segs).length:Int):=by simp only[K7];omega
  simp only[this]
theorem GG {ref kind ver:List UInt8} {segs:List aa} (hr:fx ref=true) (hk:eA kind=true) (hv:eA ver=true) (he:∀ s∈segs,eq s.fTag=0) (hn:segs.length<=2000) (I G:RO) (N:List Nt) (hG:ref∉G.frefs) (i:Nat):
  fN (qf l9 [ref,kind,ver]::(segs++[qf xp [Lib.itoa ((segs.length:Int)+2),ref]])) i ⟨[I,G],N⟩=⟨[I,lB ref G],N⟩:=by
 have hd:Ef (qf l9 [ref,kind,ver])=true:=by
  unfold Ef
  rw[pS,pT]
  show(true&&(if l9=mz then _ else if l9=l9 then Ed [ref,kind,ver] else _))=true
  rw[if_neg oD,if_pos rfl]
  simp[Ed,hr,hk,hv]
 have h1:d5 (qf l9 [ref,kind,ver]) (i:Int) ⟨[I,G],N⟩=⟨[I,lB ref G,⟨true,ref,1,[]⟩],N⟩:=by
  unfold d5
  rw[if_pos (by rfl),show eq (qf l9 [ref,kind,ver]).fTag - 1=2 from rfl,yL (lv:=2) (a:=⟨[I,G],N⟩) hd rfl]
  rw[(pW l9 ref [kind,ver]).1,(pW l9 ref [kind,ver]).2,show([I,G]:List RO)=[I]++[G] from rfl,mO,zU hG]
  simp
 obtain⟨k1,k2,_⟩:=oB (t:=(segs.length:Int)+2) oM oM
 show fN (segs++[_]) (i+1) (d5 _ (i:Int) _)=_
 rw[h1,mf,zV segs he]
 rw[yN]
 unfold d5
 rw[if_neg (by show¬ jo xp=true;decide),if_pos (by show 0<eq xp;decide),show eq (qf xp [Lib.itoa ((segs.length:Int)+2),ref]).fTag - 1=2 from rfl]
 have:=yM (s:=qf xp [Lib.itoa ((segs.length:Int)+2),ref]) (lv:=2) (i:=((i+1+segs.length:Nat):Int)) (L:=[I,lB ref G]) (x:=⟨true,ref,1+(segs.length:Int),[]⟩) (N:=N) rfl (pS _ _) (pT _ _) k1 hr rfl (by rw[k2];simp only[LX];omega) rfl
 exact this
structure MT where
 ref:List UInt8
 kind:List UInt8
 ver:List UInt8
 segs:List aa
structure KP (m:MT):Prop where
 ref:fx m.ref=true
 kind:eA m.kind=true
 ver:eA m.ver=true
 env:∀ s∈m.segs,eq s.fTag=0
 len:m.segs.length<=2000
def Jz (m:MT):List aa:=qf l9 [m.ref,m.kind,m.ver]::(m.segs++[qf xp [Lib.itoa ((m.segs.length:Int)+2),m.ref]])
theorem El:∀ (l:List MT),(∀ m∈l,KP m)->∀ (i:Nat) (I G:RO) (N:List Nt),(∀ m∈l,m.ref∉G.frefs)->(l.map (·.ref)).Nodup->
  ∃ rs,fN (l.flatMap Jz) i ⟨[I,G],N⟩=⟨[I,⟨G.fheaded,G.fref,G.fmany+(l.length:Int),rs⟩],N⟩
 |[],_,i,I,G,N,_,_=>⟨G.frefs,by simp[fN]⟩
 |m::l,h,i,I,G,N,hG,hd=>by
  obtain⟨a1,a2,a3,a4,a5⟩:=h m oS
  have h1:=GG a1 a2 a3 a4 a5 I G N (hG m oS) i
  simp only[Lh,ME] at hd
  obtain⟨rs,h2⟩:=El l (fun m hm=>h m (Mv _ hm)) (i+(Jz m).length) I (lB m.ref G) N (fun k hk=>by
   unfold lB
   rw[if_pos a1]
   simp only[Le,LA,not_or]
   exact⟨hG k (Mv _ hk),fun e=>hd.1 (by rw[<-e];exact MA hk)⟩) hd.2
  refine⟨rs, ?_⟩
  rw[L_,mf]
  have h1':fN (Jz m) i ⟨[I,G],N⟩=⟨[I,lB m.ref G],N⟩:=h1
  rw[h1',h2]
  have:G.fmany+1+(l.length:Int)=G.fmany+((m::l).length:Int):=by simp only[K7];omega
  simp only[lB,this]
structure GT where
 ref:List UInt8
 kind:List UInt8
 msgs:List MT
structure Km (g:GT):Prop where
 ref:fx g.ref=true
 kind:eA g.kind=true
 msg:∀ m∈g.msgs,KP m
 nod:(g.msgs.map (·.ref)).Nodup
 len:g.msgs.length<=2000
def GH (g:GT):List aa:=qf mz [g.ref,g.kind]::(g.msgs.flatMap Jz++[qf yR [Lib.itoa (g.msgs.length:Int),g.ref]])
theorem GI {g:GT} (h:Km g) (I:RO) (N:List Nt) (hI:g.ref∉I.frefs) (i:Nat):fN (GH g) i ⟨[I],N⟩=⟨[lB g.ref I],N⟩:=by
 have hd:Ef (qf mz [g.ref,g.kind])=true:=by
  unfold Ef
  rw[pS,pT]
  show(true&&(if mz=mz then Ec [g.ref,g.kind] else _))=true
  rw[if_pos rfl]
  simp[Ec,h.ref,h.kind]
 have h1:d5 (qf mz [g.ref,g.kind]) (i:Int) ⟨[I],N⟩=⟨[lB g.ref I,⟨true,g.ref,0,[]⟩],N⟩:=by
  unfold d5
  rw[if_pos (by rfl),show eq (qf mz [g.ref,g.kind]).fTag - 1=1 from rfl,yL (lv:=1) (a:=⟨[I],N⟩) hd rfl]
  rw[(pW mz g.ref [g.kind]).1,(pW mz g.ref [g.kind]).2,show([I]:List RO)=[]++[I] from rfl,mO,zU hI]
  simp
 obtain⟨k1,k2,_⟩:=oB (t:=(g.msgs.length:Int)) oM (by have:=h.len;omega)
 obtain⟨rs,h2⟩:=El g.msgs h.msg (i+1) (lB g.ref I) ⟨true,g.ref,0,[]⟩ N (fun m _=>by simp) h.nod
 show fN (g.msgs.flatMap Jz++[_]) (i+1) (d5 _ (i:Int) _)=_
 rw[h1,mf,h2]
 rw[yN]
 unfold d5
 rw[if_neg (by show¬ jo yR=true;decide),if_pos (by show 0<eq yR;decide),show eq (qf yR [Lib.itoa (g.msgs.length:Int),g.ref]).fTag - 1=1 from rfl]
 exact yM (s:=qf yR [Lib.itoa (g.msgs.length:Int),g.ref]) (lv:=1) (L:=[lB g.ref I]) (x:=⟨true,g.ref,0+(g.msgs.length:Int),rs⟩) (N:=N) rfl (pS _ _) (pT _ _) k1 h.ref rfl (by rw[k2];simp) rfl
theorem Em:∀ (l:List GT),(∀ g∈l,Km g)->∀ (i:Nat) (I:RO) (N:List Nt),(∀ g∈l,g.ref∉I.frefs)->(l.map (·.ref)).Nodup->
  ∃ rs,fN (l.flatMap GH) i ⟨[I],N⟩=⟨[⟨I.fheaded,I.fref,I.fmany+(l.length:Int),rs⟩],N⟩
 |[],_,i,I,N,_,_=>⟨I.frefs,by simp[fN]⟩
 |g::l,h,i,I,N,hI,hd=>by
  have h1:=GI (h g oS) I N (hI g oS) i
  simp only[Lh,ME] at hd
  obtain⟨rs,h2⟩:=Em l (fun g hg=>h g (Mv _ hg)) (i+(GH g).length) (lB g.ref I) N (fun k hk=>by
   unfold lB
   rw[if_pos (h g oS).ref]
   simp only[Le,LA,not_or]
   exact⟨hI k (Mv _ hk),fun e=>hd.1 (by rw[<-e];exact MA hk)⟩) hd.2
  refine⟨rs, ?_⟩
  rw[L_,mf,h1,h2]
  have:I.fmany+1+(l.length:Int)=I.fmany+((g::l).length:Int):=by simp only[K7];omega
  simp only[lB,this]
theorem En {ref snd rcv tst:List UInt8} {day sec:Int} {gs:List GT} (hr:fx ref=true) (h1:eA snd=true) (h2:eA rcv=true) (h3:1<=day/\day<=3652059) (h4:0<=sec/\sec<=86399) (h5:tst=[]\/tst=[49]) (hg:∀ g∈gs,Km g) (hd:(gs.map (·.ref)).Nodup) (hl:gs.length<=2000):
  xm (qf oC [ref,snd,rcv,Lib.itoa day,Lib.itoa sec,tst]::(gs.flatMap GH++[qf vn [Lib.itoa (gs.length:Int),ref]]))=[]:=by
 obtain⟨d1,d2,_⟩:=oB (t:=day) oM oM
 obtain⟨s1,s2,_⟩:=oB (t:=sec) oM oM
 obtain⟨k1,k2,_⟩:=oB (t:=(gs.length:Int)) oM oM
 have hdd:Ef (qf oC [ref,snd,rcv,Lib.itoa day,Lib.itoa sec,tst])=true:=by
  unfold Ef
  rw[pS,pT]
  show(true&&(if oC=mz then _ else if oC=l9 then _ else Ee [ref,snd,rcv,Lib.itoa day,Lib.itoa sec,tst]))=true
  rw[if_neg oD,if_neg oD]
  simp only[Ee,hr,h1,h2,Ew,Ex,d1,d2,s1,s2,L4]
  rcases h5 with rfl|rfl<;>simp<;>omega
 have e1:d5 (qf oC [ref,snd,rcv,Lib.itoa day,Lib.itoa sec,tst]) ((0:Nat):Int) ⟨[],[]⟩=⟨[⟨true,ref,0,[]⟩],[]⟩:=by
  unfold d5
  rw[if_pos (by rfl),show eq (qf oC [ref,snd,rcv,Lib.itoa day,Lib.itoa sec,tst]).fTag - 1=0 from rfl,yL (lv:=0) (a:=⟨[],[]⟩) hdd rfl,rv]
  rfl
 obtain⟨rs,e2⟩:=Em gs hg 1 ⟨true,ref,0,[]⟩ [] (fun g _=>by simp) hd
 unfold xm
 have:fN (qf oC [ref,snd,rcv,Lib.itoa day,Lib.itoa sec,tst]::(gs.flatMap GH++[qf vn [Lib.itoa (gs.length:Int),ref]])) 0 ⟨[],[]⟩=⟨[],[]⟩:=by
  show fN (gs.flatMap GH++[_]) 1 (d5 _ ((0:Nat):Int) _)=_
  rw[e1,mf,e2]
  rw[yN]
  unfold d5
  rw[if_neg (by show¬ jo vn=true;decide),if_pos (by show 0<eq vn;decide),show eq (qf vn [Lib.itoa (gs.length:Int),ref]).fTag - 1=0 from rfl]
  exact yM (s:=qf vn [Lib.itoa (gs.length:Int),ref]) (lv:=0) (L:=[]) (x:=⟨true,ref,0+(gs.length:Int),rs⟩) (N:=[]) rfl (pS _ _) (pT _ _) k1 hr rfl (by rw[k2];simp) rfl
 rw[this]
 rfl
def Iq (m:Ms):MT:=⟨m.fRef,m.fKind,m.fVersion,m.fSegments⟩
def GJ (g:Gp):GT:=⟨g.fRef,g.fKind,g.fMessages.map Iq⟩
theorem sI {α β γ:Type} (f:α->β) (g:β->List γ):∀ l:List α,(l.map f).flatMap g=l.flatMap fun a=>g (f a)
 |[]=>rfl
 |a::l=>by simp only[Lh,L_,sI f g l]
theorem JA (g:Gp):zM g=GH (GJ g):=by
 unfold zM GH GJ
 simp only[sI,LN]
 rfl
theorem JB (x:Ix):rp x=qf oC [x.fRef,x.fSender,x.fReceiver,Lib.itoa x.fDay,Lib.itoa x.fSecond,bif x.fTest then[49] else[]]::((x.fGroups.map GJ).flatMap GH++[qf vn [Lib.itoa ((x.fGroups.map GJ).length:Int),x.fRef]]):=by
 unfold rp
 simp only[sI,LN,<-JA]
 rfl
theorem GK {t:List UInt8} (h:uR t=false):eq t=0:=by
 unfold uR wV wW at h
 simp only[List.any_cons,List.any_nil,Bool.or_false,L7,Lp] at h
 obtain⟨⟨h1,h2,h3⟩,h4,h5,h6⟩:=h
 unfold eq
 rw[if_neg (by rintro(e|e);exact h1 e;exact h4 e),if_neg (by rintro(e|e);exact h2 e;exact h5 e),if_neg (by rintro(e|e);exact h3 e;exact h6 e)]
theorem zW {α:Type} (f:α->List UInt8) {l:List α} (h:∀ (i:Nat) (a:α),l[i]?=some a->(l.take i).any (fun o=>decide (f o=f a))=false):(l.map f).Nodup:=by
 unfold List.Nodup
 rw[List.pairwise_iff_getElem]
 intro i j hi hj hij e
 simp only[LN] at hi hj
 simp only[List.getElem_map] at e
 have:=h j l[j] (K6 hj)
 rw[MJ] at this
 refine this l[i] ?_ (by simpa using e)
 rw[List.mem_take_iff_getElem]
 exact⟨i,by omega,rfl⟩
theorem Eo {x:Ix} (hc:Ip x=0) (hl:(rp x).length<=2000):xm (rp x)=[]:=by
 have hR:=wR hc
 obtain⟨_,_,_,_,h5,_⟩:=Bb hc
 have hgl:(x.fGroups.flatMap zM).length<=2000:=by rw[lZ] at hl;omega
 have hday:=hR.day
 have hsec:=hR.sec
 simp only[kB,L7,Lp] at hday hsec
 rw[JB]
 refine En hR.ref hR.snd hR.rcv oM oM (by cases x.fTest;exact .inl rfl;exact .inr rfl) ?_ ?_ (by rw[LN];have:=wT (x:=x);omega)
 ·intro g' hg'
  obtain⟨g,hg,rfl⟩:=Lt.1 hg'
  obtain⟨k,hk,rfl⟩:=L1.1 hg
  have hk':x.fGroups[k]?=some x.fGroups[k]:=K6 hk
  have hgr:=hR.grp x.fGroups[k] hg
  have hz:=jd h5 k oM oM
  unfold Bf at hz
  simp only[hk'] at hz
  obtain⟨_,_,_,hm⟩:=wQ hz
  have hfl:(zM x.fGroups[k]).length<=2000:=LO (rz hk') hgl
  have hml:(x.fGroups[k].fMessages.flatMap Bd).length<=2000:=by rw[ku] at hfl;omega
  refine⟨hgr.ref,hgr.kind, ?_, ?_,by show(x.fGroups[k].fMessages.map Iq).length<=2000;rw[LN];have:=wS (g:=x.fGroups[k]);omega⟩
  ·intro m' hm'
   obtain⟨m,hmm,rfl⟩:=Lt.1 hm'
   obtain⟨q1,q2,q3,q4,q5⟩:=hgr.msg m hmm
   obtain⟨j,hj,rfl⟩:=L1.1 hmm
   have:=rz (f:=Bd) (K6 hj)
   rw[kr] at this
   exact⟨q1,q2,q3,fun s hs=>GK (q5 s hs),by show(x.fGroups[k].fMessages[j]).fSegments.length<=2000;omega⟩
  ·show((x.fGroups[k].fMessages.map Iq).map (·.ref)).Nodup
   rw[MD]
   refine zW (fun m:Ms=>m.fRef) (fun i m hi=> ?_)
   have hz:=jd hm i oM (by have:=(K5.1 hi).1;omega)
   unfold DO at hz
   simp only[hi] at hz
   exact(Bc hz).2.2.1
 ·rw[MD]
  refine zW (fun g:Gp=>g.fRef) (fun i g hi=> ?_)
  have hz:=jd h5 i oM (by have:=(K5.1 hi).1;omega)
  unfold Bf at hz
  simp only[hi] at hz
  exact(wQ hz).2.2.1

abbrev PA:=aO
abbrev PO:=iQ
theorem Ad (k:List UInt8) (v:Bool) (k':List UInt8):∀ (W:List (List UInt8×Bool)),qj (A8 W k v) k'=if k'=k then some v else qj W k'
 |[]=>by
  unfold A8 qj
  by_cases h:k'=k<;>simp[h,qj]
 |p::W=>by
  unfold A8
  by_cases hp:k=p.1
  ·rw[if_pos hp]
   unfold qj
   by_cases h:k'=k
   ·simp[h]
   ·simp[h,<-hp]
  ·rw[if_neg hp]
   show(if k'=p.1 then some p.2 else qj (A8 W k v) k')=_
   rw[Ad k v k' W]
   by_cases h:k'=k
   ·subst h;simp[hp,qj]
   ·simp[h,qj]
inductive ro {α β:Type} (P:α->β->Prop):List α->List β->Prop
 |nil:ro P [] []
 |cons {x:α} {y:β} {l:List α} {m:List β}:P x y->ro P l m->ro P (x::l) (y::m)
theorem ro.len {α β:Type} {P:α->β->Prop} {l:List α} {m:List β} (h:ro P l m):l.length=m.length:=by
 induction h with
 |nil=>rfl
 |cons _ _ ih=>simp[ih]
theorem ro.app {α β:Type} {P:α->β->Prop} {l:List α} {m:List β} (h:ro P l m) {l':List α} {m':List β} (g:ro P l' m'):ro P (l++l') (m++m'):=by
 induction h with
 |nil=>exact g
 |cons h1 _ ih=>exact .cons h1 ih
theorem ro.take {α β:Type} {P:α->β->Prop} {l:List α} {m:List β} (h:ro P l m) (n:Nat):ro P (l.take n) (m.take n):=by
 induction h generalizing n with
 |nil=>simp;exact .nil
 |cons h1 _ ih=>
  cases n with
  |zero=>exact .nil
  |succ n=>exact .cons h1 (ih n)
theorem ro.get {α β:Type} {P:α->β->Prop} {l:List α} {m:List β} (h:ro P l m) {n:Nat} {x:α} (hx:l[n]?=some x):∃ y,m[n]?=some y/\P x y:=by
 induction h generalizing n with
 |nil=>simp at hx
 |cons h1 _ ih=>
  cases n with
  |zero=>simp at hx;subst hx;exact⟨_,rfl,h1⟩
  |succ n=>exact ih (by simpa using hx)
theorem ro.rep {α β:Type} {P:α->β->Prop} {x:α} {y:β} (h:P x y) (n:Nat):ro P (List.replicate n x) (List.replicate n y):=by
 induction n with
 |zero=>exact .nil
 |succ n ih=>exact .cons h ih
theorem ro.snoc {α β:Type} {P:α->β->Prop} {x:α}:∀ {l:List α} {m:List β},ro P (l++[x]) m->∃ m' y,m=m'++[y]/\ro P l m'/\P x y
 |[],m,h=>by
  cases h with
  |cons h1 h2=>cases h2;exact⟨[],_,rfl,.nil,h1⟩
 |a::l,m,h=>by
  cases h with
  |cons h1 h2=>
   obtain⟨m',y,rfl,g1,g2⟩:=ro.snoc h2
   exact⟨_::m',y,rfl,.cons h1 g1,g2⟩
def Ko (W:List (List UInt8×Bool)) (l:List (List UInt8)):Prop:=∀ y,(qj W y).getD false=decide (y∈l)
structure Rl (p:PO) (r:RO):Prop where
 kn:p.fknown=r.fheaded
 rf:p.fref=r.fref
 ma:p.fmany=r.fmany
 rs:Ko p.frefs r.frefs
structure R2 (i:Int) (p:PO) (r:RO):Prop where
 kn:p.fknown=r.fheaded
 rf:p.fref=r.fref
 ma:r.fmany=i - p.fat
 at0:0<=p.fat
inductive yT (i:Int):List PO->List RO->Prop
 |low {pl:List PO} {rl:List RO}:pl.length<=2->ro Rl pl rl->yT i pl rl
 |top {pl:List PO} {rl:List RO} {x:PO} {y:RO}:pl.length=2->ro Rl pl rl->R2 i x y->yT i (pl++[x]) (rl++[y])
structure Gz (i:Int) (p:PA) (r:RA):Prop where
 nt:p.fnotes=r.fnotes
 lv:yT i p.flevels r.flevels
theorem yT.len {i:Int} {pl:List PO} {rl:List RO} (h:yT i pl rl):pl.length=rl.length:=by
 cases h with
 |low _ h=>exact h.len
 |top _ h _=>simp[h.len]
theorem yT.take {i:Int} {pl:List PO} {rl:List RO} (h:yT i pl rl) {n:Nat} (hn:n<=2):ro Rl (pl.take n) (rl.take n):=by
 cases h with
 |low _ h=>exact h.take n
 |top h0 h _=>
  rw[Mk oM,Mk (by rw[<-h.len];omega)]
  exact h.take n
theorem nA (a:PA) (k i:Int) (h:a.fnotes.length<=100000):bf a k i=some ((),⟨a.flevels,a.fnotes++[⟨k,i⟩]⟩):=by
 unfold bf pz;dsimp only
 unfold mB mi
 rw[if_pos (by simp only[K7,Lf];omega)]
 rfl
theorem yU (a:PA) (to:Nat) (i:Int) (h:a.fnotes.length<=50000) (hl:a.flevels.length<=3):dH a (to:Int) i=some ((),⟨a.flevels.take to,a.fnotes++List.replicate (a.flevels.length - to) ⟨2,i⟩⟩):=by
 unfold dH pA;dsimp only
 rw[show(a.flevels,a.fnotes)=((fun d:Nat=>(a.flevels.take (a.flevels.length - d),a.fnotes++List.replicate d (⟨2,i⟩:Nt))) 0) by simp]
 refine vh (X:=Nat) (fun d:Nat=>(a.flevels.take (a.flevels.length - d),a.fnotes++List.replicate d (⟨2,i⟩:Nt))) (fun d=>a.flevels.length - d) (fun d=>d<=a.flevels.length - to) ?_ 0 (LT _)
 intro d hd
 have hlen:(a.flevels.take (a.flevels.length - d)).length=a.flevels.length - d:=by rw[Lb];omega
 rcases Lx d (a.flevels.length - to) with h1|h1
 ·refine .inl ⟨d+1,h1,by omega, ?_⟩
  have d1:decide ((to:Int)<((a.flevels.take (a.flevels.length - d)).length:Int))=true:=Nb (by rw[hlen];omega)
  have hn:=nA ⟨a.flevels.take (a.flevels.length - d),a.fnotes++List.replicate d ⟨2,i⟩⟩ 2 i (by simp only[K4,Ll];omega)
  have w:IntKind.i64.wrap (((a.flevels.take (a.flevels.length - d)).length:Int) - 1)=((a.flevels.length - (d+1):Nat):Int):=by rw[hlen,aZ _ oM oM];omega
  dsimp only
  rw[d1,hn]
  simp only[Ln,K3,w]
  rw[pR _ _ (by rw[hlen];omega),List.take_take,MF oM,Lc,Ab]
  rfl
 ·have hd':d=a.flevels.length - to:=by omega
  have d1:decide ((to:Int)<((a.flevels.take (a.flevels.length - d)).length:Int))=false:=MQ (by rw[hlen];omega)
  refine .inr ⟨.inl (a.flevels.take (a.flevels.length - d),a.fnotes++List.replicate d ⟨2,i⟩), ?_, ?_⟩
  ·dsimp only
   rw[d1];rfl
  ·unfold eg
   rw[hd']
   have:a.flevels.take (a.flevels.length - (a.flevels.length - to))=a.flevels.take to:=by
    rcases Lx to a.flevels.length with h2|h2
    ·rw[show a.flevels.length - (a.flevels.length - to)=to by omega]
    ·rw[Lu h2,Lu oM]
   rw[this]
theorem Cu:jN=some [oC,mz,l9]:=by
 unfold jN aR;dsimp only
 rfl
theorem GV:jO=some [vn,yR,xp]:=by
 unfold jO aR;dsimp only
 rfl
theorem JI (a b c x:List UInt8):cZ [a,b,c] x=some (if x=a then 0 else if x=b then 1 else if x=c then 2 else -1):=by
 unfold cZ gX;dsimp only
 have w1:IntKind.i64.wrap (0+1)=1:=by rw[aZ _ oM oM];omega
 have w2:IntKind.i64.wrap (1+1)=2:=by rw[aZ _ oM oM];omega
 have w3:IntKind.i64.wrap (2+1)=3:=by rw[aZ _ oM oM];omega
 have g0:cO [a,b,c] 0=some a:=rfl
 have g1:cO [a,b,c] 1=some b:=rfl
 have g2:cO [a,b,c] 2=some c:=rfl
 have d0:decide ((0:Int)<(([a,b,c].length:Nat):Int))=true:=rfl
 have d1:decide ((1:Int)<(([a,b,c].length:Nat):Int))=true:=rfl
 have d2:decide ((2:Int)<(([a,b,c].length:Nat):Int))=true:=rfl
 have d3:decide ((3:Int)<(([a,b,c].length:Nat):Int))=false:=rfl
 rw[cC]
 simp only[d0,Ln,g0,K3,w1]
 by_cases h1:x=a
 ·simp[h1,gm,eg]
 ·simp only[MQ h1,LE,if_neg h1]
  rw[cC]
  simp only[d1,Ln,g1,K3,w2]
  by_cases h2:x=b
  ·simp[h2,gm,eg]
  ·simp only[MQ h2,LE,if_neg h2]
   rw[cC]
   simp only[d2,Ln,g2,K3,w3]
   by_cases h3:x=c
   ·simp[h3,gm,eg]
   ·simp only[MQ h3,LE,if_neg h3]
    rw[cC]
    simp only[d3,LE]
    simp[gm,eg]
def ur:PO:=⟨false,[],0,0,[]⟩
theorem JJ:Rl ur xq:=⟨rfl,rfl,rfl,fun y=>by simp[ur,xq,qj]⟩
theorem Iw (lv:Nat) (L:List PO) (N:List Nt) (hlv:lv<=3) (hL:L.length<=lv) (K:List PO×List Nt->Option (Unit×PA)):
  (bg (fun s:List PO×List Nt=>bif decide (((s.1.length:Nat):Int)<(lv:Int)) then mi (mB (s.1.length+1)) (some (.inl (s.1++[ur],s.2))) else gm (some (.inl (s.1,s.2)))) (L,N)).bind (eg K)=K (L++List.replicate (lv - L.length) ur,N):=by
 rw[show(L,N)=((fun d:Nat=>(L++List.replicate d ur,N)) 0) by simp]
 refine vh (X:=Nat) (fun d:Nat=>(L++List.replicate d ur,N)) (fun d=>lv - L.length - d) (fun d=>d<=lv - L.length) ?_ 0 (LT _)
 intro d hd
 have hlen:(L++List.replicate d ur).length=L.length+d:=by rw[K4,Ll]
 rcases Lx d (lv - L.length) with h1|h1
 ·refine .inl ⟨d+1,h1,by omega, ?_⟩
  have d1:decide (((L++List.replicate d ur).length:Int)<(lv:Int))=true:=Nb (by rw[hlen];omega)
  have hl:mB ((L++List.replicate d ur).length+1)=some ():=by unfold mB;rw[if_pos (by rw[hlen];omega)]
  dsimp only
  rw[d1,hl,<-Ab,<-Lc]
  rfl
 ·have hd':d=lv - L.length:=by omega
  have d1:decide (((L++List.replicate d ur).length:Int)<(lv:Int))=false:=MQ (by rw[hlen];omega)
  refine .inr ⟨.inl (L++List.replicate d ur,N), ?_, ?_⟩
  ·dsimp only
   rw[d1];rfl
  ·rw[hd'];rfl
theorem Kp {es:List ax} (h:z_ es=false):fx (oa es)=false:=by
 cases es with
 |nil=>rfl
 |cons e es=>
  unfold z_ at h
  unfold oa
  simp only at h⊢
  cases hs:fQ e with
  |false=>simp;rfl
  |true=>rw[hs] at h;simpa using h
theorem Kq {es:List ax} (h:z_ es=true):fx (oa es)=true/\oa es=my es:=by
 cases es with
 |nil=>simp[z_] at h
 |cons e es=>
  unfold z_ at h
  simp only[K1] at h
  unfold oa my
  simp only[h.1,LX]
  exact⟨h.2,trivial⟩
theorem ED {lv:Nat} {L:List PO} {R:List RO} (hF:ro Rl L R) (hl:L.length=lv) (hlv:lv<=2) (ref:List UInt8) (i:Nat):yT ((i+1:Nat):Int) (L++[⟨true,ref,(i:Int),0,[]⟩]) (R++[⟨true,ref,if lv=2 then 1 else 0,[]⟩]):=by
 by_cases h:lv=2
 ·rw[if_pos h]
  exact .top oM hF ⟨rfl,rfl,by simp only;omega,by simp only;omega⟩
 ·rw[if_neg h]
  exact .low oT (hF.app (.cons ⟨rfl,rfl,rfl,fun y=>by simp[qj]⟩ .nil))
theorem yV {lv:Nat} {P:List PO} {Q:List RO} {x:PO} {y:RO} (hF:ro Rl P Q) (hxy:Rl x y) (hl:P.length+1=lv) (hlv:lv<=2) (ref:List UInt8) (i:Nat):yT ((i+1:Nat):Int) (P++[x]++[⟨true,ref,(i:Int),0,[]⟩]) (Q++[y]++[⟨true,ref,if lv=2 then 1 else 0,[]⟩]):=
 ED (hF.app (.cons hxy .nil)) oT hlv ref i
theorem Bw {i:Nat} {p:PA} {r:RA} {n:Nat} (hn:n<=2001) (hR:Gz (i:Int) p r) (hB:uo n r) (s:aa) (lv:Nat) (hlv:lv<=2) (hE:yO s.fElements):
  ∃ p',dU p s (lv:Int) (i:Int)=some ((),p')/\Gz ((i+1:Nat):Int) p' (ob s lv (i:Int) r):=by
 obtain⟨b1,b2,b3⟩:=hB
 obtain⟨e1,e2⟩:=hR
 have hll:=e2.len
 have hclo:=yU p lv (i:Int) (by rw[e1];omega) oM
 have hF:ro Rl (p.flevels.take lv) (bP lv (i:Int) r).flevels:=e2.take hlv
 have hNN:p.fnotes++List.replicate (p.flevels.length - lv) ⟨2,(i:Int)⟩=(bP lv (i:Int) r).fnotes:=by simp only[bP,e1,hll]
 have hLl:(p.flevels.take lv).length<=lv:=by rw[Lb];omega
 have hN:(bP lv (i:Int) r).fnotes.length<=10 * n+3:=by simp only[bP,K4,Ll];omega
 have hm:∀ x∈(bP lv (i:Int) r).flevels,0<=x.fmany/\x.fmany<=100000/\x.frefs.length<=100000:=by
  intro x hx
  have:=b3 x (Lq hx)
  omega
 unfold dU pB;dsimp only
 rw[show(⟨p.flevels,p.fnotes⟩:PA)=p from rfl,hclo]
 simp only[K3,GN s hE,GQ s hE,JD s hE]
 rw[hNN]
 unfold ob gI
 generalize p.flevels.take lv=L at hF hLl
 generalize bP lv (i:Int) r=r1 at hF hN hm
 obtain⟨R,N⟩:=r1
 simp only at hF hN hm⊢
 have hRl:=hF.len
 rcases Lx L.length lv with hc|hc
 have d1:decide ((L.length:Int)<(lv:Int))=true:=Nb oM
 rw[d1,if_pos oM,nA _ 1 (i:Int) (by simp only;omega)]
 simp only[Ln,K3]
 have key:=fun K=>Iw lv L (N++[⟨1,(i:Int)⟩]) oM hLl K
 simp only[ur] at key
 simp only[Mc]
 rw[key]
 have kl:(L++List.replicate (lv - L.length) (⟨false,[],0,0,[]⟩:PO)).length=lv:=by simp only[K4,Ll];omega
 have hF3:ro Rl (L++List.replicate (lv - L.length) (⟨false,[],0,0,[]⟩:PO)) (R++List.replicate (lv - R.length) xq):=by
  rw[<-hRl]
  exact hF.app (ro.rep JJ _)
 have k2:(N++[(⟨1,(i:Int)⟩:Nt)]).length<=10 * n+4:=by simp only[K4,K7,Lf];omega
 have k3:∀ x∈R++List.replicate (lv - R.length) xq,0<=x.fmany/\x.fmany<=100000/\x.frefs.length<=100000:=by
  intro x hx
  rcases Le.1 hx with hx|hx
  ·exact hm x hx
  ·rw[List.eq_of_mem_replicate hx];simp[xq]
 generalize L++List.replicate (lv - L.length) (⟨false,[],0,0,[]⟩:PO)=L3 at kl hF3
 generalize R++List.replicate (lv - R.length) xq=R3 at hF3 k3
 generalize N++[(⟨1,(i:Int)⟩:Nt)]=N2 at k2
 cases hh:Ef s
 have k5:(N2++[(⟨6,(i:Int)⟩:Nt)]).length<=10 * n+5:=by simp only[K4,K7,Lf];omega
 simp only[LL,Ln,jp,hh,Lm,LI]
 rw[nA _ 6 (i:Int) (by simp only;omega)]
 simp only[K3,lA]
 generalize N2++[(⟨6,(i:Int)⟩:Nt)]=NN at k5
 rotate_left
 have k5:N2.length<=10 * n+5:=by omega
 simp only[LG,LE,jp,hh,LX]
 generalize N2=NN at k5
 rotate_left
 have d1:decide ((L.length:Int)<(lv:Int))=false:=MQ oM
 rw[d1,if_neg oM]
 simp only[LE]
 have kl:L.length=lv:=by omega
 have hF3:=hF
 have k3:=hm
 generalize L=L3 at kl hF3
 generalize R=R3 at hF3 k3
 cases hh:Ef s
 have k5:(N++[(⟨6,(i:Int)⟩:Nt)]).length<=10 * n+5:=by simp only[K4,K7,Lf];omega
 simp only[LL,Ln,jp,hh,Lm,LI]
 rw[nA _ 6 (i:Int) (by simp only;omega)]
 simp only[K3,lA]
 generalize N++[(⟨6,(i:Int)⟩:Nt)]=NN at k5
 rotate_left
 have k5:N.length<=10 * n+5:=by omega
 simp only[LG,LE,jp,hh,LX]
 generalize N=NN at k5
 all_goals
  rcases Nat.eq_zero_or_pos lv with h0|h0
  ·subst h0
   have e3:L3=[]:=Ld.1 kl
   subst e3
   have e4:R3=[]:=by have:=hF3.len;cases R3 with
    |nil=>rfl
    |cons _ _=>simp at this
   subst e4
   have d0:decide ((0:Int)<((0:Nat):Int))=false:=rfl
   have l0:mB (([]:List PO).length+1)=some ():=rfl
   rw[d0]
   simp only[LE,K7,Lf,LF,mi]
   refine⟨_,rfl,⟨by rw[rv], ?_⟩⟩
   rw[rv]
   exact ED (lv:=0) ro.nil rfl oM _ i
  ·have d0:decide ((0:Int)<(lv:Int))=true:=Nb oM
   rcases MG L3 with e3|⟨P,x,e3⟩
   ·rw[e3] at kl;simp at kl;omega
   ·rw[MH] at e3
    subst e3
    obtain⟨Q,y,rfl,hF4,hxy⟩:=hF3.snoc
    have hPl:P.length=lv - 1:=by simp at kl;omega
    have hy:=k3 y oS
    have wl:IntKind.i64.wrap ((lv:Int) - 1)=((P.length:Nat):Int):=by rw[aZ _ oM oM];omega
    have gx:cO (P++[x]) ((P.length:Nat):Int)=some x:=by rw[aW];simp
    have sx:∀ z:PO,(P++[x]).set P.length z=P++[z]:=fun z=>by simp
    have wx:IntKind.i64.wrap (x.fmany+1)=x.fmany+1:=by have:=hxy.ma;exact aZ _ oM oM
    have lx:∀ z:PO,mB ((P++[z]).length+1)=some ():=fun z=>by unfold mB;rw[if_pos oT]
    have n5:∀ L,bf ⟨L,NN⟩ 5 (i:Int)=some ((),⟨L,NN++[⟨5,i⟩]⟩):=fun L=>nA _ _ _ (by simp only;omega)
    simp only[d0,Ln,wl,gx,K3,Mo,sx,wx,ep,hxy.rs (my s.fElements),n5,Mc,mi]
    rw[mO]
    cases ho:z_ s.fElements with
    |false=>
     have hr:=Kp ho
     simp only[Bool.false_and,LE]
     simp only[lx,K3]
     refine⟨_,rfl,⟨by simp[yS,hr], ?_⟩⟩
     refine yV (lv:=lv) hF4 ?_ oM hlv _ i
     refine⟨hxy.kn,hxy.rf,by simp[lB,hxy.ma], ?_⟩
     simp only[lB,hr,Lm,LI]
     exact hxy.rs
    |true=>
     obtain⟨hr,he⟩:=Kq ho
     by_cases hm:my s.fElements∈y.frefs
     ·simp only[L4,Nb hm,Ln]
      simp only[lx,K3]
      refine⟨_,rfl,⟨by simp[yS,he▸hr,he,hm], ?_⟩⟩
      refine yV (lv:=lv) hF4 ?_ oM hlv _ i
      refine⟨hxy.kn,hxy.rf,by simp[lB,hxy.ma], ?_⟩
      simp only[lB,hr,LX]
      intro z
      rw[hxy.rs z,he]
      by_cases hz:z=my s.fElements
      ·subst hz;simp[hm]
      ·simp[hz]
     ·simp only[L4,MQ hm,LE,Ln]
      simp only[lx,K3]
      refine⟨_,rfl,⟨by simp[yS,he▸hr,he,hm], ?_⟩⟩
      refine yV (lv:=lv) hF4 ?_ oM hlv _ i
      refine⟨hxy.kn,hxy.rf,by simp[lB,hxy.ma], ?_⟩
      simp only[lB,hr,LX]
      intro z
      rw[Ad,he]
      by_cases hz:z=my s.fElements
      ·subst hz;simp
      ·simp[hz,hxy.rs z]
theorem Es {s:aa} {lv:Nat} {i:Int} {a:RA} {x:RO} (h:lv<a.flevels.length) (hx:a.flevels[lv]?=some x):
  lC s lv i a=⟨a.flevels.take lv,(bP (lv+1) i a).fnotes++(if s.fElements.all fQ=true then GR (s.fElements.map dA) lv i x else[⟨6,i⟩])⟩:=by
 unfold lC
 rw[if_neg oM,hx]
theorem Bu {i:Nat} {p:PA} {r:RA} {n:Nat} (hi:i<=2001) (hn:n<=2001) (hR:Gz (i:Int) p r) (hB:uo n r) (s:aa) (lv:Nat) (hlv:lv<=2) (hE:yO s.fElements):
  ∃ p',dV p s (lv:Int) (i:Int)=some ((),p')/\Gz ((i+1:Nat):Int) p' (lC s lv (i:Int) r):=by
 obtain⟨b1,b2,b3⟩:=hB
 obtain⟨e1,e2⟩:=hR
 have hll:=e2.len
 have hl:=qI hE
 have ht:=yP s.fTag hE
 unfold dV pC;dsimp only
 rcases Lx lv r.flevels.length with h1|h1
 ·have d1:decide ((p.flevels.length:Int)<=(lv:Int))=false:=MQ oM
  have wl:IntKind.i64.wrap ((lv:Int)+1)=((lv+1:Nat):Int):=ge lv oM
  have hclo:=yU p (lv+1) (i:Int) (by rw[e1];omega) oM
  obtain⟨x,hx⟩:=eH (show lv<p.flevels.length by omega)
  obtain⟨y,hy⟩:=eH h1
  have hp:p.flevels.take (lv+1)=p.flevels.take lv++[x]:=lz hx
  have hpl:(p.flevels.take lv).length=lv:=by rw[Lb];omega
  have hF:ro Rl (p.flevels.take lv) (r.flevels.take lv):=e2.take hlv
  have hNN:p.fnotes++List.replicate (p.flevels.length - (lv+1)) ⟨2,(i:Int)⟩=(bP (lv+1) (i:Int) r).fnotes:=by simp only[bP,e1,hll]
  have hN:(bP (lv+1) (i:Int) r).fnotes.length<=10 * n+3:=by simp only[bP,K4,Ll];omega
  have hxy:x.fknown=y.fheaded/\x.fref=y.fref/\(lv≠2->x.fmany=y.fmany)/\(lv=2->IntKind.i64.wrap (IntKind.i64.wrap ((i:Int) - x.fat)+1)=y.fmany+1):=by
   have hyb:=b3 y (K8 hy)
   generalize hpl2:p.flevels=pl at e2 hx
   generalize hrl2:r.flevels=rl at e2 hy
   cases e2 with
   |low h0 h=>
    obtain⟨z,hz,hq⟩:=h.get hx
    have:z=y:=by rw[hy] at hz;exact(Mj hz).symm
    subst this
    refine⟨hq.kn,hq.rf,fun _=>hq.ma,fun h2=> ?_⟩
    have:=K5.1 hx
    obtain⟨h5,_⟩:=this
    omega
   | @top pl' rl' x' y' h0 h hq=>
    rcases Lx lv 2 with h2|h2
    ·rw[LH oM] at hx
     rw[LH (by rw[<-h.len];omega)] at hy
     obtain⟨z,hz,hq⟩:=h.get hx
     have:z=y:=by rw[hy] at hz;exact(Mj hz).symm
     subst this
     exact⟨hq.kn,hq.rf,fun _=>hq.ma,fun h2=>by omega⟩
    ·have h3:lv=2:=by omega
     subst h3
     rw[Lv oM,h0] at hx
     rw[Lv (by rw[<-h.len];omega),<-h.len,h0] at hy
     simp at hx hy
     subst hx hy
     refine⟨hq.kn,hq.rf,fun g=>absurd rfl g,fun _=> ?_⟩
     have:=hq.ma
     have:=hq.at0
     rw[aZ ((i:Int) - x'.fat) oM oM,aZ _ oM oM]
     omega
  have ht':lj s=some (Jq s.fElements):=ht
  rw[Es h1 hy,d1,show(⟨p.flevels,p.fnotes⟩:PA)=p from rfl,wl,hclo,hp,hNN]
  simp only[LE,K3,ht',Cu]
  have hRel:∀ N,Gz ((i+1:Nat):Int) (⟨p.flevels.take lv,N⟩:PA) (⟨r.flevels.take lv,N⟩:RA):=fun N=>⟨rfl,.low (by rw[hpl];exact hlv) hF⟩
  generalize(bP (lv+1) (i:Int) r).fnotes=N at hN
  generalize p.flevels.take lv=P at hpl hRel
  have g1:cO (P++[x]) (lv:Int)=some x:=by rw[aW,<-hpl];simp
  have g3:fB (P++[x]) 0 (lv:Int)=some P:=by rw[pR _ _ oT,<-hpl];simp
  have n1:∀ L k,bf ⟨L,N⟩ k (i:Int)=some ((),⟨L,N++[⟨k,i⟩]⟩):=fun L k=>nA _ _ _ (by simp only;omega)
  have n2:∀ L k j,bf ⟨L,N++[⟨j,i⟩]⟩ k (i:Int)=some ((),⟨L,N++[⟨j,i⟩]++[⟨k,i⟩]⟩):=fun L k j=>nA _ _ _ (by simp only[K4,K7,Lf];omega)
  have w2:IntKind.i64.wrap ((([oC,mz,l9]:List (List UInt8)).length:Int) - 1)=2:=by
   rw[show((([oC,mz,l9]:List (List UInt8)).length:Int) - 1)=2 from rfl,aZ _ oM oM]
  have d2:decide ((lv:Int)=2)=decide (lv=2):=by
   by_cases h:lv=2
   ·rw[Nb h,Nb oM]
   ·rw[MQ h,MQ oM]
  simp only[g1,g3,K3,w2,d2,n1]
  unfold Jq
  cases hs:s.fElements.all fQ with
  |false=>
   simp only[Lm,LI,LL,Cr,K3,Ln]
   exact⟨_,rfl,hRel _⟩
  |true=>
   simp only[LX,LG,Aa,K3]
   generalize s.fElements.map dA=ts at hl
   match ts with
   |[]=>exact⟨_,rfl,hRel _⟩
   |[q1]=>exact⟨_,rfl,hRel _⟩
   |q1::q2::q3::ts=>
    have d3:decide (((q1::q2::q3::ts).length:Int)=2)=false:=by simp only[K7,Lp];omega
    simp only[d3,LL,Cr,K3,Ln]
    exact⟨_,rfl,hRel _⟩
   |[a,b]=>
    have d3:decide ((([a,b]:List (List UInt8)).length:Int)=2)=true:=rfl
    have e0:cO [a,b] 0=some a:=rfl
    have e5:cO [a,b] 1=some b:=rfl
    have hnum:jP a 9=some (if jn a=true then qg a else 0,jn a):=by
     rw[H4 a (hl a oS)]
     cases h:jn a with
     |true=>simp
     |false=>simp
    simp only[d3,LG,Aa,e0,e5,K3,nz b (hl b oS),hnum,GR]
    cases hb:fx b with
    |false=>
     simp only[LL,Ln,Lm,and_false,LI]
     exact⟨_,rfl,hRel _⟩
    |true=>
     simp only[LG,LE]
     cases ha:jn a with
     |false=>
      simp only[LL,Ln,Lm,false_and,LI]
      exact⟨_,rfl,hRel _⟩
     |true=>
      simp only[LG,LE,LX,and_self]
      cases hk:x.fknown with
      |false=>
       rw[<-hxy.1,hk]
       simp only[LL,Ln,Lm,LI,Lr]
       exact⟨_,rfl,hRel _⟩
      |true=>
       rw[<-hxy.1,hk,<-hxy.2.1]
       simp only[LG,LE,LX]
       by_cases h2:lv=2
       ·rw[Nb h2,if_pos h2,hxy.2.2.2 h2]
        simp only[Ln]
        by_cases h3:qg a=y.fmany+1<;>by_cases h4:b=x.fref<;>simp only[h3,h4,MK,M9,LG,LL,Ln,LE,LX,LI,n2,K3,Lr,Lk]
        ·exact⟨_,rfl,hRel _⟩
        ·exact⟨_,rfl,hRel _⟩
        ·exact⟨_,rfl,hRel _⟩
        ·exact⟨_,rfl,by rw[<-Lc];exact hRel _⟩
       ·rw[MQ h2,if_neg h2,<-hxy.2.2.1 h2]
        simp only[LE,Int.add_zero]
        by_cases h3:qg a=x.fmany<;>by_cases h4:b=x.fref<;>simp only[h3,h4,MK,M9,LG,LL,Ln,LE,LX,LI,n2,K3,Lr,Lk]
        ·exact⟨_,rfl,hRel _⟩
        ·exact⟨_,rfl,hRel _⟩
        ·exact⟨_,rfl,hRel _⟩
        ·exact⟨_,rfl,by rw[<-Lc];exact hRel _⟩
 ·have d1:decide ((p.flevels.length:Int)<=(lv:Int))=true:=Nb oM
  have ht:lC s lv (i:Int) r=lA r 1 i:=by unfold lC;rw[if_pos h1]
  rw[d1,ht,nA _ 1 (i:Int) (by simp only;rw[e1];omega)]
  refine⟨_,rfl,⟨by simp only[lA,e1], ?_⟩⟩
  have h3:=e2.take (n:=2) oM
  rw[Lu oM,Lu oM] at h3
  exact .low (by simp only;omega) h3
def QN (x:Nt):Prop:=0<=x.fSegment/\x.fSegment<=2000/\0<=x.fKind/\x.fKind<=7
def qJ (a:RA):Prop:=∀ x∈a.fnotes,QN x
theorem xQ {N M:List Nt} (h:∀ x∈N,QN x) (g:∀ x∈M,QN x):∀ x∈N++M,QN x:=fun x hx=>(Le.1 hx).elim (h x) (g x)
theorem vm {k i:Int} (h1:0<=k) (h2:k<=7) (h3:0<=i) (h4:i<=2000):∀ x∈[(⟨k,i⟩:Nt)],QN x:=fun x hx=>by rw[LA.1 hx];exact⟨h3,h4,h1,h2⟩
theorem Et:∀ x∈([]:List Nt),QN x:=fun x hx=>by cases hx
section
variable {i:Int} (h3:0<=i) (h4:i<=2000)
include h3 h4
theorem yQ {to:Nat} {a:RA} (h:qJ a):qJ (bP to i a):=xQ h (fun x hx=>by rw[List.eq_of_mem_replicate hx];exact⟨h3,h4,by simp,by simp⟩)
theorem Bv {k:Int} {a:RA} (h1:0<=k) (h2:k<=7) (h:qJ a):qJ (lA a k i):=xQ h (vm h1 h2 h3 h4)
theorem Is {s:aa} {lv:Nat} {a:RA} (h:qJ a):qJ (ob s lv i a):=by
 have h5:=yQ h3 h4 (to:=lv) h
 have h6:qJ (gI lv i (bP lv i a)):=by
  unfold gI
  split
  ·exact xQ h5 (vm oS oS h3 h4)
  ·exact h5
 have h7:qJ (jp s i (gI lv i (bP lv i a))):=by
  unfold jp
  split
  ·exact h6
  ·exact Bv h3 h4 oS oS h6
 unfold ob
 simp only[qJ]
 generalize jp s i (gI lv i (bP lv i a))=b at h7
 unfold uq
 split
 ·exact h7
 ·refine xQ h7 ?_
  unfold yS
  split
  ·exact vm oS oS h3 h4
  ·exact Et
theorem JE {ts:List (List UInt8)} {lv:Nat} {x:RO}:∀ y∈GR ts lv i x,QN y:=by
 have q:∀ (c:Prop) [Decidable c] (k:Int),0<=k->k<=7->∀ x∈(if c then([]:List Nt) else[⟨k,i⟩]),QN x:=fun c _ k a b=>by
  split
  ·exact Et
  ·exact vm a b h3 h4
 unfold GR
 split
 ·split
  ·split
   ·exact xQ (q _ 3 oD oD) (q _ 4 oD oD)
   ·exact Et
  ·exact vm oS oS h3 h4
 ·exact vm oS oS h3 h4
theorem It {s:aa} {lv:Nat} {a:RA} (h:qJ a):qJ (lC s lv i a):=by
 unfold lC
 split
 ·exact Bv h3 h4 oS oS h
 ·split
  ·exact h
  ·refine xQ (yQ h3 h4 h) ?_
   split
   ·exact JE h3 h4
   ·exact vm oS oS h3 h4
theorem Iu {s:aa} {a:RA} (h:qJ a):qJ (d5 s i a):=by
 unfold d5
 split
 ·exact Is h3 h4 h
 ·split
  ·exact It h3 h4 h
  ·split
   ·exact Bv h3 h4 oS oS h
   ·unfold xR
    split
    ·exact h
    ·exact h
end
theorem H5:∀ (l:List aa) (i:Nat) (a:RA),i+l.length<=2000->qJ a->qJ (fN l i a)
 |[],i,a,_,h=>h
 |s::l,i,a,hl,h=>H5 l (i+1) _ (by simp at hl;omega) (Iu oM (by simp at hl;omega) h)
theorem JF {l:List aa} (hl:l.length<=2000):∀ x∈xm l,QN x:=yQ oM oM (H5 l 0 _ oM (fun x hx=>by cases hx))
theorem JG:C5 QN jQ Gy:=by
 rintro⟨k1,s1⟩ ⟨k2,s2⟩ ⟨a1,a2,a3,a4⟩ ⟨b1,b2,b3,b4⟩
 simp only at a1 a2 a3 a4 b1 b2 b3 b4
 unfold jQ gX;dsimp only
 unfold Gy
 simp only
 by_cases h:s1=s2
 ·rw[Nb h]
  refine⟨_,rfl, ?_⟩
  rw[aZ _ oM oM,LP]
  simp;omega
 ·rw[MQ h]
  refine⟨_,rfl, ?_⟩
  rw[aZ _ oM oM,LP]
  simp;omega
theorem GO {i:Nat} {p:PA} {r:RA} {x:RO} (hR:Gz (i:Int) p r) (h3:¬ r.flevels.length<3):Gz ((i+1:Nat):Int) p (xR r):=by
 obtain⟨pl,pn⟩:=p
 obtain⟨rl,rn⟩:=r
 obtain⟨e1,e2⟩:=hR
 simp only at e1 e2 h3
 cases e2 with
 |low h0 h=>have:=h.len;omega
 | @top P R x' y' h0 h hq=>
  have hl:=h.len
  have hg:(R++[y'])[2]?=some y':=by rw[Lv oM,<-hl,h0];rfl
  have hs:∀ z:RO,(R++[y']).set 2 z=R++[z]:=fun z=>by rw[MW _ _ oM,<-hl,h0];rfl
  unfold xR
  simp only[hg,hs]
  refine⟨e1,.top h0 h ⟨hq.kn,hq.rf, ?_,hq.at0⟩⟩
  have:=hq.ma
  simp only
  omega
theorem GP (l:List aa) (h:JH l):∃ W,nV l=some W/\kP Gy W/\SP Gy (xm l) W:=by
 have hB:∀ i,i<=l.length->uo i (fN (l.take i) 0 ⟨[],[]⟩):=fun i hi=>by
  have:=Cs (l.take i) 0 _ KU
  rwa[Lb,LF,MF hi] at this
 have hlen:=h.1
 unfold nV pD;dsimp only
 refine F7 (X:=PA×Nat) (C:=fun W=>kP Gy W/\SP Gy (xm l) W) (fun x=>(x.1.flevels,x.1.fnotes,(x.2:Int))) (fun x=>l.length - x.2) (fun x=>x.2<=l.length/\Gz (x.2:Int) x.1 (fN (l.take x.2) 0 ⟨[],[]⟩)) ?_ (⟨[],[]⟩,0) ⟨LT _,rfl,.low oS .nil⟩
 rintro⟨p,i⟩ ⟨hi,hR⟩
 simp only at hi hR⊢
 have hb:=hB i hi
 rcases Lx i l.length with h1|h1
 ·left
  obtain⟨s,hs⟩:=eH h1
  have hE:=h.2 s (K8 hs)
  have w:IntKind.i64.wrap ((i:Int)+1)=((i+1:Nat):Int):=ge i oM
  have hr:fN (l.take (i+1)) 0 ⟨[],[]⟩=d5 s (i:Int) (fN (l.take i) 0 ⟨[],[]⟩):=by
   rw[lz hs,xS,Lb,LF,MF hi]
  have goal:∀ p',Gz ((i+1:Nat):Int) p' (d5 s (i:Int) (fN (l.take i) 0 ⟨[],[]⟩))->∀ m,m=some (Sum.inl (p'.flevels,p'.fnotes,((i+1:Nat):Int)))->
    ∃ y:PA×Nat,(y.2<=l.length/\Gz (y.2:Int) y.1 (fN (l.take y.2) 0 ⟨[],[]⟩))/\l.length - y.2<l.length - i/\m=some (Sum.inl (y.1.flevels,y.1.fnotes,(y.2:Int)):(List PO×List Nt×Int)⊕((List PO×List Nt×Int)⊕List Nt)):=by
   intro p' hp m hm
   exact⟨(p',i+1),⟨h1,by rw[hr];exact hp⟩,by simp only;omega,hm⟩
  generalize fN (l.take i) 0 ⟨[],[]⟩=a at hb hR goal
  obtain⟨b1,b2,b3⟩:=id hb
  simp only[eu h1,Ln,aW,hs,K3,Cu,GV,JI,w]
  have hstep:d5 s (i:Int) a=_:=rfl
  unfold d5 at goal
  by_cases t1:s.fTag=oC
  ·obtain⟨p',k1,k2⟩:=Bw oM hR hb s 0 oM hE
   refine goal p' ?_ _ ?_
   ·rw[if_pos (by rw[t1];rfl),t1];exact k2
   ·rw[if_pos t1]
    have d:decide ((0:Int)<=0)=true:=rfl
    simp only[d,Ln]
    rw[show(⟨p.flevels,p.fnotes⟩:PA)=p from rfl,show(0:Int)=((0:Nat):Int) from rfl,k1]
    rfl
  rw[if_neg t1]
  by_cases t2:s.fTag=mz
  ·obtain⟨p',k1,k2⟩:=Bw oM hR hb s 1 oM hE
   refine goal p' ?_ _ ?_
   ·rw[if_pos (by rw[t2];rfl),t2];exact k2
   ·rw[if_pos t2]
    have d:decide ((0:Int)<=1)=true:=rfl
    simp only[d,Ln]
    rw[show(⟨p.flevels,p.fnotes⟩:PA)=p from rfl,show(1:Int)=((1:Nat):Int) from rfl,k1]
    rfl
  rw[if_neg t2]
  by_cases t3:s.fTag=l9
  ·obtain⟨p',k1,k2⟩:=Bw oM hR hb s 2 oM hE
   refine goal p' ?_ _ ?_
   ·rw[if_pos (by rw[t3];rfl),t3];exact k2
   ·rw[if_pos t3]
    have d:decide ((0:Int)<=2)=true:=rfl
    simp only[d,Ln]
    rw[show(⟨p.flevels,p.fnotes⟩:PA)=p from rfl,show(2:Int)=((2:Nat):Int) from rfl,k1]
    rfl
  rw[if_neg t3]
  have hh:jo s.fTag=false:=by unfold jo;simp[t1,t2,t3]
  rw[if_neg (by rw[hh];decide)] at goal
  have dm:decide ((0:Int)<= -1)=false:=rfl
  simp only[dm,LE]
  by_cases t4:s.fTag=vn
  ·obtain⟨p',k1,k2⟩:=Bu oM oM hR hb s 0 oM hE
   refine goal p' ?_ _ ?_
   ·rw[if_pos (by rw[t4];decide),t4];exact k2
   ·rw[if_pos t4]
    have d:decide ((0:Int)<=0)=true:=rfl
    simp only[d,Ln]
    rw[show(⟨p.flevels,p.fnotes⟩:PA)=p from rfl,show(0:Int)=((0:Nat):Int) from rfl,k1]
    rfl
  rw[if_neg t4]
  by_cases t5:s.fTag=yR
  ·obtain⟨p',k1,k2⟩:=Bu oM oM hR hb s 1 oM hE
   refine goal p' ?_ _ ?_
   ·rw[if_pos (by rw[t5];decide),t5];exact k2
   ·rw[if_pos t5]
    have d:decide ((0:Int)<=1)=true:=rfl
    simp only[d,Ln]
    rw[show(⟨p.flevels,p.fnotes⟩:PA)=p from rfl,show(1:Int)=((1:Nat):Int) from rfl,k1]
    rfl
  rw[if_neg t5]
  by_cases t6:s.fTag=xp
  ·obtain⟨p',k1,k2⟩:=Bu oM oM hR hb s 2 oM hE
   refine goal p' ?_ _ ?_
   ·rw[if_pos (by rw[t6];decide),t6];exact k2
   ·rw[if_pos t6]
    have d:decide ((0:Int)<=2)=true:=rfl
    simp only[d,Ln]
    rw[show(⟨p.flevels,p.fnotes⟩:PA)=p from rfl,show(2:Int)=((2:Nat):Int) from rfl,k1]
    rfl
  rw[if_neg t6]
  simp only[dm,LE]
  have hz:eq s.fTag=0:=by unfold eq;simp[t1,t2,t3,t4,t5,t6]
  rw[if_neg oM] at goal
  have hll:=hR.lv.len
  by_cases h3:a.flevels.length<3
  ·rw[if_pos h3] at goal
   have d:decide ((p.flevels.length:Int)<(([oC,mz,l9]:List (List UInt8)).length:Int))=true:=Nb (by simp only[K7,Lf];omega)
   refine goal ⟨p.flevels,p.fnotes++[⟨7,i⟩]⟩ ⟨by simp only[lA,hR.nt], ?_⟩ _ ?_
   ·have h5:=hR.lv.take (n:=2) oM
    rw[Lu oM,Lu oM] at h5
    exact .low (by simp only;omega) h5
   ·rw[d,nA _ 7 (i:Int) (by simp only;rw[hR.nt];omega)]
    rfl
  ·rw[if_neg h3] at goal
   have d:decide ((p.flevels.length:Int)<(([oC,mz,l9]:List (List UInt8)).length:Int))=false:=MQ (by simp only[K7,Lf];omega)
   refine goal p (GO (x:=xq) hR h3) _ ?_
   rw[d];rfl
 ·right
  have:i=l.length:=by omega
  subst this
  rw[MB] at hb hR
  obtain⟨b1,b2,b3⟩:=hb
  have hll:=hR.lv.len
  have hclo:=yU p 0 ((l.length:Nat):Int) (by rw[hR.nt];omega) oM
  have hN:p.fnotes++List.replicate (p.flevels.length - 0) ⟨2,((l.length:Nat):Int)⟩=xm l:=by simp only[xm,bP,hR.nt,hll]
  have hNl:(xm l).length<=137438953472:=by simp only[xm,bP,K4,Ll];omega
  refine⟨.inl (p.flevels,p.fnotes,((l.length:Nat):Int)), ?_⟩
  simp only[bm,LE]
  simp only[eg]
  rw[show(⟨p.flevels,p.fnotes⟩:PA)=p from rfl,show(0:Int)=((0:Nat):Int) from rfl,hclo,hN]
  simp only[K3]
  obtain⟨W,g1,g2,g3⟩:=xP (f:=56) (c:=[]) (p:=jQ) (by intro a0 a1 r hr;exact mq a0 a1 r hr) Kn JG (xm l) (JF hlen) hNl
  exact⟨W,rfl,by rw[g1];rfl,g2,g3⟩
def kY {α:Type} (h:Nat->α->Int):Nat->List α->Int
 |_,[]=>0
 |i,e::l=>if h i e=0 then kY h (i+1) l else h i e
theorem Bn {α R:Type} (l:List α) (h:Nat->α->Int) (ret:Int->R) (k:Int->Option R) {f:Int->Option (Int⊕(Int⊕R))}
  (hb:∀ (i:Nat) (e:α),l[i]?=some e->f (i:Int)=if h i e=0 then some (.inl ((i+1:Nat):Int)) else some (.inr (.inr (ret (h i e)))))
  (he:f (l.length:Int)=some (.inr (.inl (l.length:Int)))):(bg f 0).bind (eg k)=if kY h 0 l=0 then k (l.length:Int) else some (ret (kY h 0 l)):=by
 have:∀ (t:List α) (i:Nat),l.drop i=t->i<=l.length->bg f (i:Int)=if kY h i t=0 then some (.inl (l.length:Int)) else some (.inr (ret (kY h i t))):=by
  intro t
  induction t with
  |nil=>
   intro i hd hi
   have:=n8 hd hi
   subst this
   rw[cC,he]
   rfl
  |cons e t ih=>
   intro i hd hi
   obtain⟨h1,h2,h3⟩:=tG hd
   rw[cC,hb i e h1]
   by_cases h0:h i e=0
   ·simp only[kY,h0,LX];exact ih (i+1) h3 h2
   ·simp only[kY,h0,LI]
 have e0:bg f 0=if kY h 0 l=0 then some (.inl (l.length:Int)) else some (.inr (ret (kY h 0 l))):=this l 0 rfl (LT _)
 rw[e0]
 by_cases h0:kY h 0 l=0
 ·rw[if_pos h0,if_pos h0];rfl
 ·rw[if_neg h0,if_neg h0];rfl
def Gd {α:Type} (c:Nat->α->Bool):Nat->List α->Bool
 |_,[]=>false
 |i,e::l=>c i e||Gd c (i+1) l
theorem xc {α:Type} (c:Nat->α->Bool) (n:Int) (hn:n≠0):∀ (l:List α) (i:Nat),kY (fun i e=>if c i e=true then n else 0) i l=if Gd c i l=true then n else 0
 |[],_=>rfl
 |e::l,i=>by
  simp only[kY,Gd,xc c n hn l (i+1)]
  by_cases hc:c i e=true<;>simp[hc,hn]
def uV (a b:UInt8):Bool:=decide ((a.toNat:Int)=(b.toNat:Int))
def Ji (m:bQ):Bool:= !je m.fElement|| !je m.fPart|| !je m.fRepeat|| !je m.fEnd||(!decide ((m.fEscape.toNat:Int)=0)&& !je m.fEscape)
def CZ (m:bQ):Bool:=uV m.fPart m.fElement||uV m.fRepeat m.fElement||uV m.fRepeat m.fPart||uV m.fEnd m.fElement||uV m.fEnd m.fPart||uV m.fEnd m.fRepeat||uV m.fEscape m.fElement||uV m.fEscape m.fPart||uV m.fEscape m.fRepeat||uV m.fEscape m.fEnd
def Ge (m:bQ):Int:=if Ji m=true then 3 else if CZ m=true then 7 else 0
theorem Bo (l:List UInt8) (b:UInt8) (hl:l.length<9223372036854775807):eD l b=some (l.any (uV b)):=by
 unfold eD dN;dsimp only
 have hI:fD l b=some (match l.findIdx? (uV b) with|some i=>(i:Int)|none=> -1):=by
  unfold fD eI;dsimp only
  have:∀ (t:List UInt8) (i:Nat) (f:Int->Option (Int⊕(Int⊕Int))),l.drop i=t->i<=l.length->(∀ (i:Nat) (e:UInt8),l[i]?=some e->f (i:Int)=bif uV b e then some (.inr (.inr (i:Int))) else some (.inl ((i+1:Nat):Int)))->f (l.length:Int)=some (.inr (.inl (l.length:Int)))->
    bg f (i:Int)=some (match t.findIdx? (uV b) with|some j=> .inr (((i+j:Nat)):Int)|none=> .inl (l.length:Int)):=by
   intro t
   induction t with
   |nil=>
    intro i f hd hi hb he
    have:=n8 hd hi
    subst this
    rw[cC,he]
    rfl
   |cons e t ih=>
    intro i f hd hi hb he
    obtain⟨h1,h2,h3⟩:=tG hd
    rw[cC,hb i e h1,List.findIdx?_cons]
    cases hq:uV b e with
    |true=>simp
    |false=>
     simp only[LE]
     rw[ih (i+1) f h3 h2 hb he]
     cases t.findIdx? (uV b) with
     |none=>rfl
     |some j=>simp;omega
  refine kx (this l 0 _ rfl (LT _) (fun i e he=> ?_) ?_) ?_
  ·have hi:=gD he
   simp only[eu hi,Ln,aW,he,K3,ge i oM]
   show(bif uV b e then _ else _)=_
   cases uV b e<;>rfl
  ·simp only[bm,LE];rfl
  ·cases l.findIdx? (uV b) with
   |none=>rfl
   |some j=>simp[eg]
 rw[hI]
 simp only[K3]
 congr 1
 cases h:l.findIdx? (uV b) with
 |none=>
  rw[List.findIdx?_eq_none_iff] at h
  symm
  simp only[MJ]
  simpa using h
 |some j=>
  have h2:=List.findIdx?_eq_some_iff_getElem.1 h
  obtain⟨hj,h3, -⟩:=h2
  symm
  simp only[K_,Int.natCast_nonneg,MK]
  exact MN.2 ⟨l[j],List.getElem_mem hj,h3⟩
theorem HL (m:bQ):fj m=some (Ge m):=by
 unfold fj iZ;dsimp only
 simp only[Jf,K3,eo,ep]
 unfold Ge
 have hb:Ji m=(ic (fun b=>if je b=true then(0:Int) else 3) [m.fElement,m.fPart,m.fRepeat,m.fEnd] !=0||(!decide ((m.fEscape.toNat:Int)=0)&& !je m.fEscape)):=by
  unfold Ji
  simp only[ic]
  by_cases h1:je m.fElement=true<;>by_cases h2:je m.fPart=true<;>by_cases h3:je m.fRepeat=true<;>by_cases h4:je m.fEnd=true<;>simp[h1,h2,h3,h4]
 rw[hb]
 refine(l4 [m.fElement,m.fPart,m.fRepeat,m.fEnd] (fun b=>if je b=true then(0:Int) else 3) (fun _=>3) _ (fun i e he=> ?_) ?_).trans ?_
 ·have hi:i<4:=gD he
  have h4:decide ((i:Int)<4)=true:=Nb oM
  simp only[h4,Ln,aW,he,K3,ge i oM]
  cases je e<;>rfl
 ·rfl
 ·by_cases h0:ic (fun b=>if je b=true then(0:Int) else 3) [m.fElement,m.fPart,m.fRepeat,m.fEnd]=0
  ·rw[if_pos h0,h0]
   simp only[bne_self_eq_false,Mh]
   by_cases h1:(!decide ((m.fEscape.toNat:Int)=0)&& !je m.fEscape)=true
   ·rw[if_pos h1];simp only[h1,Ln]
   ·rw[if_neg h1]
    simp only[Ml] at h1
    simp only[h1,LE]
    rw[xa (CY oS)]
    refine(Bn [m.fElement,m.fPart,m.fRepeat,m.fEnd,m.fEscape] (fun i e=>if([m.fElement,m.fPart,m.fRepeat,m.fEnd].take i).any (uV e)=true then 7 else 0) (fun a=>a) _ (fun i e he=> ?_) ?_).trans ?_
    ·have hi:i<5:=gD he
     have h5:decide ((i:Int)<5)=true:=Nb oM
     have hs:fB [m.fElement,m.fPart,m.fRepeat,m.fEnd] 0 (if 4<(i:Int) then 4 else(i:Int))=some ([m.fElement,m.fPart,m.fRepeat,m.fEnd].take i):=by
      have:¬ (4<(i:Int)):=by omega
      rw[if_neg this]
      unfold fB
      rw[if_pos ⟨by omega,by omega,by simp;omega⟩]
      simp
     have hn:[m.fElement,m.fPart,m.fRepeat,m.fEnd,m.fEscape][(i:Int).toNat]?=some e:=by simpa using he
     simp only[h5,Ln,aW,he,hn,K3,ge i oM]
     have hs2:fB [m.fElement,m.fPart,m.fRepeat,m.fEnd] ((none:Option Int).getD 0) ((some (if 4<(i:Int) then 4 else(i:Int))).getD ((4:Nat):Int))=some ([m.fElement,m.fPart,m.fRepeat,m.fEnd].take i):=hs
     rw[hs2]
     simp only[K3]
     rw[Bo _ e (by rw[Lb];simp;omega)]
     simp only[K3]
     cases([m.fElement,m.fPart,m.fRepeat,m.fEnd].take i).any (uV e)<;>rfl
    ·rfl
    ·rw[xc (fun i e=>([m.fElement,m.fPart,m.fRepeat,m.fEnd].take i).any (uV e)) 7 oD]
     have:Gd (fun i e=>([m.fElement,m.fPart,m.fRepeat,m.fEnd].take i).any (uV e)) 0 [m.fElement,m.fPart,m.fRepeat,m.fEnd,m.fEscape]=CZ m:=by
      rw[LP]
      simp only[Gd,List.take,List.any_cons,List.any_nil,CZ,uV,LV,K_,Bool.or_false,Mh,Lm]
      omega
     rw[this]
     cases CZ m<;>rfl
  ·rw[if_neg h0]
   have:(ic (fun b=>if je b=true then(0:Int) else 3) [m.fElement,m.fPart,m.fRepeat,m.fEnd] !=0)=true:=by simpa using h0
   rw[this]
   rfl
theorem C0 {t:List UInt8} (h:uU t=true):t.length<=6/\2<=t.length:=by
 cases t with
 |nil=>cases h
 |cons b t=>
  simp only[uU,K1,K_] at h
  simp only[K7]
  omega
theorem HM {s:aa} (h:sC s=0):uU s.fTag=true/\s.fTag.length<=6/\2<=s.fTag.length/\s.fElements.length<=50/\∀ e∈s.fElements,nv e=0:=by
 unfold sC at h
 split at h
 ·cases h
 ·rename_i h1
  have h1:uU s.fTag=true:=by simpa using h1
  split at h
  ·cases h
  ·exact⟨h1,(C0 h1).1,(C0 h1).2,by omega,eU h⟩
theorem Gf {l:List aa} (h:j6 l=0):l.length<=2000/\∀ s∈l,sC s=0:=by
 unfold j6 at h
 split at h
 ·cases h
 ·exact⟨by omega,eU h⟩
end Go.Proofs.YtgmnipfafmphaaaGreatDoor
