/-
  Texts of mine, one behind the other (SYI2, SYPK1).
-/
import Derived.Test.YtgmnipfafmphaaaGreatDoorBY6
import Derived.Test.YtgmnipfafmphaaaGreatDoorBY7
import Derived.Test.YtgmnipfafmphaaaGreatDoorBY9
namespace Go.Proofs.YtgmnipfafmphaaaGreatDoor
open Go.RowKit
set_option linter.unusedSimpArgs false
set_option linter.unusedVariables false
theorem Od (m:ab):fv m=some (if eq m=0 then(ft m,0) else([],eq m)):=by
 unfold fv
 rw[zD]
 simp only[SQ]
 by_cases h:eq m=0<;>simp[h]
def rQ (x:Ix) (m:ab) (c:Bool):List UInt8×Int:=
 if Iy x≠0 then([],Iy x) else if eq m≠0 then([],eq m) else if qK (ki x) m c≠0 then([],qK (ki x) m c) else(ft m++(x3 m c (ki x)).1,0)
theorem Mc {x:Ix} (hn:Oc x) (D:Qn x):nZ (ki x):=fun s hs=>by
 have:=(wX (Is hn D s hs)).2.1
 omega
theorem Bt {l:List aa} {m:ab} {c:Bool} (h:qK l m c=0):(x3 m c l).1.length<=499992:=by
 unfold qK at h
 by_cases h1:pi l m=0
 ·rw[if_neg (fun e=>e h1)] at h
  by_cases h2:iy m (qO m l)=true
  ·rw[U4 h2] at h;cases h
  ·rw[if_neg h2] at h
   by_cases E:499992<(x3 m c l).1.length
   ·rw[U4 E] at h;cases h
   ·omega
 ·rw[U4 h1] at h;exact absurd h h1
theorem Hu (x:Ix) (m:ab) (c:Bool) (ho:JT x) (hn:Oc x):ti x m c=some (rQ x m c):=by
 unfold ti th;dsimp only
 unfold rQ
 simp only[Rr x ho,Od,SQ]
 by_cases hc:Iy x=0
 ·have D:=Bq hc
  simp only[hc,TA,S9,S7,ne_eq,not_true_eq_false,Tq]
  by_cases Z:eq m=0
  ·obtain⟨pl,d, -,G⟩:=Qq (ki x) m c
   simp only[Z,TB,TA,S9,S7,not_true_eq_false,Tq,Hs x hn D,SQ,JR _ m c (Mc hn D),G]
   by_cases hj:qK (ki x) m c=0
   ·have:=Bt hj
    simp only[hj,TB,TA,S9,S7,not_true_eq_false,Tq,SQ]
    rw[bU (by simp only[ft,ST,S3];omega)]
   ·simp[hj]
  ·simp[Z]
 ·simp[hc]
variable {b:bt} {c:Bool} {m:ab} {x:Ix}
theorem Mu {z:QR} (hz:J6 b z) (h0:z.2.2.2.2=0):∃ (m:ab) (i:Int) (y:Ix) (p:Bool),z=(y,m,p,0,0)/\Cr b m i/\n8 m [] false (b.drop 8) (.inr (ki y,p))/\et (ki y)=0/\M8 y/\Iy y=0:=by
 cases hz with
 |head _ he=>exact absurd h0 he
 |big=>exact absurd h0 oD
 |syn=>exact absurd (show(10:Int)=0 from h0) oD
 |seg _ _ hs=>exact absurd h0 hs
 |note=>exact absurd (show(3:Int)=0 from h0) oD
 |nil=>exact absurd h0 oD
 |ihd=>exact absurd (show(3:Int)=0 from h0) oD
 | @fin m i y p h hc hs hq hj hE=>
  by_cases d:Iy y=0
  ·rw[U4 d]
   exact⟨m,i,y,p,rfl,h,hc,hs,hE,d⟩
  ·rw[if_neg d] at h0
   exact absurd h0 d
theorem Hy (m:ab) (p:Bool) (l:List aa):(x3 m p l).1=iL m p l:=by
 unfold x3
 rw[IG,S8]
theorem Dr {i:Int} {y:Ix} {p:Bool} (h:Cr b m i) (hc:n8 m [] false (b.drop 8) (.inr (ki y,p))) (hs:et (ki y)=0) (h0:Iy y=0):rQ y m p=(b,0):=by
 obtain⟨Z,a⟩:=Gl h.1
 have hk:=vP Z
 obtain⟨_,ys,e1,e2,e3⟩:=HV hk.pR hk.eN hc (ki y) p rfl
 rw[S8] at e1
 subst e1
 have g:pi (ki y) m=0:=by unfold pi;rw[U4 hs];exact Z
 have I:=TX List.length a
 have h8:(ft m).length=8:=rfl
 have h2:=h.2
 rw[SS,h8,e2] at I
 have hj:qK (ki y) m p=0:=by
  unfold qK
  rw[if_neg (by rw[g];simp),Np e3,if_neg oS,Hy,if_neg oM]
 unfold rQ
 rw[if_neg (by rw[h0];simp),if_neg (by rw[Z];simp),if_neg (by rw[hj];simp),Hy,<-e2,<-a]
theorem Oz {t:List UInt8} (h:x4 t=false):t≠fy:=by
 rintro rfl
 revert h
 decide
theorem Sh (D:Qn x):M8 x:=by
 have b:=D.day
 have c:=D.sec
 simp only[l7,TS,Tk] at b c
 refine⟨D.ref,D.snd,D.rcv,by omega,by omega,fun g hg=> ?_⟩
 have a:=D.grp g hg
 refine⟨a.ref,a.kind,fun m Z=> ?_⟩
 obtain⟨q1,W,q3,q4,q5⟩:=a.msg m Z
 exact⟨q1,W,q3,fun s hs=>HO (q5 s hs)⟩
theorem Ru (D:Qn x) (j:Nat) (s:aa) (h:(ki x)[j+1]?=some s):s.fTag≠fy:=by
 unfold ki at h
 rw[TO] at h
 have Z:=SW h
 rcases Te.1 Z with Z|Z
 ·obtain⟨g,hg,Z⟩:=Ut.1 Z
  unfold Br at Z
  rcases Tf.1 Z with rfl|Z
  ·show([71,72,68]:List UInt8)≠fy;decide
  ·rcases Te.1 Z with Z|Z
   ·obtain⟨q,hq,Z⟩:=Ut.1 Z
    unfold Co at Z
    rcases Tf.1 Z with rfl|Z
    ·show([77,72,68]:List UInt8)≠fy;decide
    ·rcases Te.1 Z with Z|Z
     ·exact Oz (((D.grp g hg).msg q hq).env s Z)
     ·rw[Tj.1 Z];show([77,84,82]:List UInt8)≠fy;decide
   ·rw[Tj.1 Z];show([71,84,82]:List UInt8)≠fy;decide
 ·rw[Tj.1 Z];show([73,84,82]:List UInt8)≠fy;decide
theorem JY (hn:Oc x) (h0:(rQ x m c).2=0):J6 (rQ x m c).1 (x,m,c,0,0)/\(rQ x m c).1.length<=500000/\M8 x/\et (ki x)=0:=by
 unfold rQ at h0⊢
 by_cases hc:Iy x=0
 ·rw[if_neg (by rw[hc];simp)] at h0⊢
  by_cases Z:eq m=0
  ·rw[if_neg (by rw[Z];simp)] at h0⊢
   by_cases hj:qK (ki x) m c=0
   ·rw[if_neg (by rw[hj];simp)] at h0⊢
    have D:=Bq hc
    have hs:=JO hn D
    have a:=Bt hj
    have hb:iy m (qO m (ki x))=false:=by
     cases hb:iy m (qO m (ki x)) with
     |false=>rfl
     |true=>
      exfalso
      unfold qK at hj
      have g:pi (ki x) m=0:=by unfold pi;rw[U4 hs];exact Z
      rw[if_neg (by rw[g];simp),hb,U4 rfl] at hj
      exact absurd hj oD
    rw[Hy] at a⊢
    have hk:=vP Z
    obtain⟨g1,g2⟩:=oG hs
    have r5:∀ s∈ki x,E8 m s:=fun s v0=>by
     obtain⟨k1,k2,k3⟩:=BC.1 (g2 s v0)
     refine⟨k1,fun e he=> ?_⟩
     obtain⟨k4,k5,k6⟩:=x6.1 (k3 e he)
     refine⟨fun hz=>by rw[hz] at k4;simp at k4,fun p Y=> ?_⟩
     obtain⟨k7,j,h⟩:=BB.1 (k6 p Y)
     exact⟨fun hz=>by rw[hz] at k7;simp at k7,fun t ht=>⟨KO (h t ht),Nq hb v0 he Y ht⟩⟩
    have f:=O3 hk c (ki x) [] false r5 (.inl rfl)
    have U:ki x≠[]:=by intro e;have:=jk x;rw[e] at this;simp at this
    rw[S8,if_neg U] at f
    have h8:(ft m).length=8:=rfl
    have hd:(ft m++iL m c (ki x)).drop 8=iL m c (ki x):=by rw[<-h8,UI]
    have I:(ft m++iL m c (ki x)).length<=500000:=by rw[SS,h8];omega
    have hE:=Sh D
    have d:=J6.fin (b:=ft m++iL m c (ki x)) (m:=m) (i:=0) (y:=x) (p:=c) ⟨J4 Z _,I⟩ (by rw[hd];exact f) hs (Kz hc g1) (Ru D) hE
    rw[U4 hc] at d
    exact⟨d,I,hE,hs⟩
   ·rw[U4 hj] at h0;exact absurd h0 hj
  ·rw[U4 Z] at h0;exact absurd h0 Z
 ·rw[U4 hc] at h0;exact absurd h0 hc
theorem Mv (h0:(rQ x m c).2≠0):(rQ x m c).1=[]:=by
 unfold rQ at h0⊢
 split
 ·rfl
 ·rename_i h1
  rw[if_neg h1] at h0
  split
  ·rfl
  ·rename_i h2
   rw[if_neg h2] at h0
   split
   ·rfl
   ·rename_i E
    rw[if_neg E] at h0
    exact absurd rfl h0
theorem JZ (x:Ix) (m:ab) (c:Bool) (b:bt) (ho:JT x) (hn:Oc x) (hb:b.length<=9223372036854775807):bf x m c b=some true:=by
 have Y:=Hu x m c ho hn
 obtain⟨z,hz⟩:=ME b
 have D:=RE hb hz
 have d:decide ((0:Int)=0)=true:=rfl
 by_cases h0:(rQ x m c).2=0
 ·obtain⟨hq,hl,hE,hs⟩:=JY hn h0
  have s9:=RE oM hq
  have u8:=J9 hE hs
  by_cases G:z.2.2.2.2=0
  ·obtain⟨m',i,y,p,rfl,M,a2,a3,a4,a5⟩:=Mu hz G
   obtain⟨e,n'⟩:=EL a4 a3
   have w7:b.length<=500000:=M.2
   have a:=Hu y m' p e n'
   rw[Dr M a2 a3 a5] at a
   unfold bf kY;dsimp only
   simp only[D,SQ,d,TA,S4,a,S9,E9 b oM,bT,UB,S7,Y,h0,s9,cx,UX,u8,wZ,T7]
  ·unfold bf kY;dsimp only
   simp only[D,SQ,TZ G,d,TA,S4,S9,bT,UB,S7,Y,h0,s9,cx,UX,u8,wZ]
 ·have f:=Mv h0
  by_cases G:z.2.2.2.2=0
  ·obtain⟨m',i,y,p,rfl,M,a2,a3,a4,a5⟩:=Mu hz G
   obtain⟨e,n'⟩:=EL a4 a3
   have w7:b.length<=500000:=M.2
   have a:=Hu y m' p e n'
   rw[Dr M a2 a3 a5] at a
   unfold bf kY;dsimp only
   simp only[D,SQ,d,TA,S4,a,S9,E9 b oM,bT,UB,S7,Y,TZ h0,Tm,f,cx,wZ,T7]
   rfl
  ·unfold bf kY;dsimp only
   simp only[D,SQ,TZ G,S7,Y,TZ h0,Tm,S4,f,cx,wZ]
   rfl
end Go.Proofs.YtgmnipfafmphaaaGreatDoor
