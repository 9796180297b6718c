/-
  Texts of mine, one behind the other (SZAT5).
-/
import Derived.Test.YtgmnipfafmphaaaGreatDoorBZ4
import Derived.Test.YtgmnipfafmphaaaGreatDoorBZ6
namespace Go.Proofs.YtgmnipfafmphaaaGreatDoor
open Go.RowKit
set_option linter.unusedSimpArgs false
set_option linter.unusedVariables false
def Ep (x:Ix):List aa×Int:=if Ip x≠0 then([],Ip x) else(rp x,0)
theorem zX (x:Ix) (ho:FS x) (hn:Jt x):kV x=some (Ep x):=by
 unfold kV po;dsimp only
 unfold Ep
 simp only[Kx x ho,K3]
 by_cases hc:Ip x=0
 ·simp[hc,Cc x hn (wR hc)]
 ·simp[hc]
theorem zY {l:List aa} (h:j6 l=0):tH l:=fun s hs=>by
 have:=(HM ((Gf h).2 s hs)).2.1
 omega
theorem H3 {l:List aa} (h0:j6 l=0):∃ W,nW l=some (W,0)/\W.length=(xm l).length:=by
 obtain⟨W,w1,_,w3⟩:=GP l (H6 h0)
 refine⟨W, ?_,w3.1.length_eq.symm⟩
 unfold nW pE;dsimp only
 rw[Gc l (zY h0)]
 simp only[K3,h0,MK,LG,LE,w1]
theorem rt:gb=some true:=by
 unfold gb pF;dsimp only
 have h:gc ⟨UInt8.ofNat (Int.toNat 42),UInt8.ofNat (Int.toNat 58),UInt8.ofNat (Int.toNat 94),UInt8.ofNat (Int.toNat 63),UInt8.ofNat (Int.toNat 126)⟩=some ([77,82,75,42,58,94,63,126],0):=by
  unfold gc
  rw[HL]
  rfl
 rw[h]
 rfl
theorem Cq (t:List UInt8):be [[73,72,68],[71,72,68],[77,72,68],[73,84,82],[71,84,82],[77,84,82]] t=some (decide (0<eq t)):=by
 rw[nY _ t oD]
 congr 1
 rw[LP,K_]
 simp only[List.any_cons,List.any_nil,Bool.or_false,LV,K_]
 unfold eq oC mz l9 vn yR xp
 constructor
 ·rintro(h|h|h|h|h|h)<;>subst h<;>decide
 ·intro h
  by_cases c1:t=[73,72,68]\/t=[73,84,82]
  ·rcases c1 with c|c
   ·exact .inl c
   ·exact .inr (.inr (.inr (.inl c)))
  ·rw[if_neg c1] at h
   by_cases c2:t=[71,72,68]\/t=[71,84,82]
   ·rcases c2 with c|c
    ·exact .inr (.inl c)
    ·exact .inr (.inr (.inr (.inr (.inl c))))
   ·rw[if_neg c2] at h
    by_cases c3:t=[77,72,68]\/t=[77,84,82]
    ·rcases c3 with c|c
     ·exact .inr (.inr (.inl c))
     ·exact .inr (.inr (.inr (.inr (.inr c))))
    ·rw[if_neg c3] at h;omega
theorem Er (x:Ix) (g:Int) (ho:FS x) (hn:Jt x):aY x g=some true:=by
 have d0:decide ((0:Int)=0)=true:=rfl
 have hS:=zX x ho hn
 unfold Ep at hS
 by_cases hc:Ip x=0
 ·rw[if_neg (by rw[hc];simp)] at hS
  have hr:=wR hc
  have h0:=DN hn hr
  have hlen:(rp x).length<=2000:=(H6 h0).1
  have hall:=CV hn hr
  have hq:=Eo hc hlen
  obtain⟨W,w1,w2⟩:=H3 h0
  have hW:W=[]:=Ld.1 (by rw[w2,hq];rfl)
  subst hW
  have dl:decide ((((([]:List Nt)).length:Nat):Int)=0)=true:=rfl
  by_cases hg:g<0\/((rp x).length:Int)<=g
  ·have hv:(decide (g<0)||decide (((rp x).length:Int)<=g))=true:=by
    rw[LV,K_,K_];exact hg
   unfold aY jc;dsimp only
   simp only[hS,K3,d0,MK,LG,LE,w1,dl,eo,M8,hv,rt]
   simp only[Ii,Ln,K3]
  ·obtain⟨k,rfl⟩:∃ k:Nat,g=(k:Int):=⟨g.toNat,by omega⟩
   have hk:k<(rp x).length:=by omega
   obtain⟨s,hs⟩:=eH hk
   have hv:(decide ((k:Int)<0)||decide (((rp x).length:Int)<=(k:Int)))=false:=by
    rw[L7,Lp,Lp];omega
   by_cases hT:0<eq s.fTag
   ·have hm:∀ e∈(rp x).take k++(rp x).drop (k+1),sC e=0:=by
     intro e he
     rcases Le.1 he with he|he
     ·exact hall e (Lq he)
     ·exact hall e (LW he)
    have hz:j6 ((rp x).take k++(rp x).drop (k+1))=0:=by
     unfold j6
     rw[if_neg (by simp only[K4,Lb,L5];omega)]
     exact ly hm
    obtain⟨W,v1,v2⟩:=H3 hz
    have hne:xm ((rp x).take k++(rp x).drop (k+1))≠[]:=Kl hq hs hT
    have hpos:decide ((0:Int)<(W.length:Int))=true:=by
     have:0<W.length:=by rw[v2];exact Mr.2 hne
     exact Nb oM
    have hcl:am (rp x)=some (rp x):=by
     unfold am
     rw[if_pos oM]
    have hdel:aB (rp x) (k:Int) ((k+1:Nat):Int)=some ((rp x).take k++(rp x).drop (k+1)):=by
     unfold aB
     rw[if_pos oM]
     rfl
    unfold aY jc;dsimp only
    simp only[hS,K3,d0,MK,LG,LE,w1,dl,eo,M8,hv,aW,hs,Cq,Nb hT,hcl,ge k oM,hdel,v1,hpos,ep,M1,rt]
   ·unfold aY jc;dsimp only
    simp only[hS,K3,d0,MK,LG,LE,w1,dl,eo,M8,hv,aW,hs,Cq,MQ hT,LL,Bool.or_true,Ln,rt]
 ·rw[if_pos hc] at hS
  unfold aY jc;dsimp only
  simp only[hS,K3,MQ hc,LL,Ln,rt,ep]
  rfl
end Go.Proofs.YtgmnipfafmphaaaGreatDoor
