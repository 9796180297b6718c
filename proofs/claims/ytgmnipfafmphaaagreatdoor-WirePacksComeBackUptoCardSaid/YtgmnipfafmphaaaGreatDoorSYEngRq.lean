/-
  My text.
-/
import Derived.Test.YtgmnipfafmphaaaGreatDoorSYEngRp
import Derived.Test.YtgmnipfafmphaaaGreatDoorSYEngRg
import Derived.Test.YtgmnipfafmphaaaGreatDoorSYPL
namespace Go.Proofs.YtgmnipfafmphaaaGreatDoor
set_option linter.unusedSimpArgs false
set_option linter.unusedVariables false
open Go.RowKit
variable {C:List SV} {R V:Type} {b:IntKind} {cs:List SV} {dst e i id:Nat} {m:Int} {off:Nat} {op:oX} {rows:List (List SV)} {sz t:Nat} {y z:SX} {W:List (List UInt8×V)} {f:V->DV} {g:V->SV} {r:R}
theorem JB {K:Type} {u:K->DV} (id:Nat) (o:DV) (W:List (K×V)):sD id o (kw u (fun v=> .d (f v)) W)=kw u (fun v=> .d (f v)) W:=FY id o (fun _=>rfl) W
attribute [push_cast] JB
section
variable {P:Program} {s:Nat->SV} {h:Nat->Ch} {K:St->Prop} {sos:List SO} {α:Type} {H:α->List DV}
theorem NT {z:SV} {m k:SX} {key:List UInt8} {z0:V} (hx:ev s m= .mp id) (hk:ev s k= .d (.str key)) (hh:h id= .map .str (kw .str g W)) (a:g=fun v=> .d (f v)) (hz:z= .d (f z0)) (i:aD P K sos ⟨am s dst (.d (f ((uk W key).getD z0))),h⟩):aD P K (.r dst (.look .str z false m k)::sos) ⟨s,h⟩:=by
 subst a hz
 refine N2 hx hk hh ?_ rfl i
 unfold uA
 rw[Dh]
 cases uk W key<;>rfl
theorem JC {k:List UInt8} {v:V} {x:SV} (hx:x=g v):xI (.map .str (mg (kw .str g W) (.str k) x)) (.map .str (kw .str g (FX W k v))):=by
 subst hx
 rw[Di]
 exact aN rfl
end
def hZ {α:Type} (H:α->List DV) (x:α):List DV:=[.ptr (H x)]
theorem JD {β:Type} {L:List β} {k:Nat} {c:β} (h:k<=i):(L.set i c).take k=L.take k:=by
 apply List.ext_getElem?
 intro j
 by_cases hj:j<k
 ·rw[Um hj,Um hj,List.getElem?_set_ne oM]
 ·rw[List.getElem?_eq_none oT,List.getElem?_eq_none oT]
section
variable {P:Program} {B:SC} {Q:AX->St->Prop} {s:Nat->SV} {h:Nat->Ch} {G:St->Prop} {sos:List SO} {α K V:Type} {H:α->List DV} {ms:List bj} {l:List α} {x x':α} {u:K->DV} {w:V->DV} {kk:KK} {σ O:St}
theorem Ig (B:SC) (hi:bm σ O) (hk:AW P B Q O):AW P B Q σ:=pO hi hk
theorem Lz {s':Nat->SV} {h':Nat->Ch} (hi:bm ⟨s,h⟩ ⟨s',h'⟩) (hk:aD P G (.o dst op::sos) ⟨s',h'⟩):aD P G (.o dst op::sos) ⟨s,h⟩:=by
 obtain⟨j,h1,h2⟩:=hk
 exact⟨j,hi.trans h1,h2⟩
theorem Hb {C:Nat} (hh:h id= .vec e 1 (au [.pt ms] (hZ H) l)) (hx:l[i]?=some x) (U:id≠C):
  bm ⟨s,h⟩ ⟨bl C .any s,am (am (bG C .any h) id (.vec e 1 ((au [.pt ms] (hZ H) l).set i [.ref C 0]))) C (.box (bi ms (H x)))⟩:=by
 refine sG (σ:=⟨s,h⟩) (p:= .v i 0) U ?_
 have hg:jZ (h id) (.v i 0)=some (.own (.pt ms) (.ptr (H x))):=by
  simp only[hh,jZ,t8 hx];rfl
 simp only[rb,hg,cf]
 simp only[hh,jY,gl,sK,t8 hx]
 rfl
theorem Pc {a C:Nat} (Y:s a= .vref id 1 i 0) (hh:h id= .vec e 1 (au [.pt ms] (hZ H) l)) (hx:l[i]?=some x) (U:id≠C) (hk:aD P G (.o dst (.ld1 (.t a))::sos) ⟨bl C .any s,am (am (bG C .any h) id (.vec e 1 ((au [.pt ms] (hZ H) l).set i [.ref C 0]))) C (.box (bi ms (H x)))⟩):aD P G (.o dst (.ld1 (.t a))::sos) ⟨s,h⟩:=
 Lz (Hb hh hx U) hk
theorem yE {C:Nat} {q:SV} {R f R2:List (List SV)} (hh:h id= .vec e 1 R) (hg:R[i]?=some [.ref C 0]) (hj:h C= .box cs) (hc:ag cs (bi ms (H x'))) (I:(H x').length=ms.length) (U:id≠C) (h1:c0 C .any R=f) (hq:f[i]?=some [q]) (h2:f.set i [.own (.pt ms) (.ptr (H x'))]=R2):bm ⟨s,h⟩ ⟨bl C .any s,am (am (bG C .any h) id (.vec e 1 R2)) C .dead⟩:=by
 subst h1 h2
 have n:bm ⟨s,h⟩ ⟨s,am h C (.box (bi ms (H x')))⟩:=zA hj hc
 have i2:=nO (σ:=⟨s,am h C (.box (bi ms (H x')))⟩) (id:=id) (g:=C) (p:= .v i 0) (m:= .pt ms) (d:= .ptr (H x')) (ch:= .box (bi ms (H x'))) (mk:=fun j=> .ref j 0) U
  rfl I (by simp only[am,U,Tq,hh,jZ,hg];rfl) (by simp only[am,TB])
 have e1:iu ⟨s,am h C (.box (bi ms (H x')))⟩ id (.v i 0) C (.pt ms) (.ptr (H x'))=⟨bl C .any s,am (am (bG C .any h) id (.vec e 1 ((c0 C .any R).set i [.own (.pt ms) (.ptr (H x'))]))) C .dead⟩:=by
  simp only[iu,am,U,Tq,hh,jY]
  congr 1
  funext j
  by_cases c:j=C
  ·subst c;simp only[am,TB]
  ·by_cases r4:j=id
   ·subst r4
    simp only[am,c,Tq,TB,sK,hq]
    rfl
   ·simp only[am,c,r4,Tq,bG]
 rw[e1] at i2
 exact n.trans i2
theorem i8 {C:Nat} (hh:h id= .vec e 1 ((au [.pt ms] (hZ H) l).set i [.ref C 0])) (hj:h C= .box cs) (hc:ag cs (bi ms (H x'))) (I:∀ x,(H x).length=ms.length) (hi:i<l.length) (U:id≠C):
  bm ⟨s,h⟩ ⟨bl C .any s,am (am (bG C .any h) id (.vec e 1 (au [.pt ms] (hZ H) (l.set i x')))) C .dead⟩:=by
 have h5:i<(au [.pt ms] (hZ H) l).length:=by rw[cU];exact hi
 refine yE (q:= .d .any) hh (Uc h5) hj hc (I _) U (f:=(au [.pt ms] (hZ H) l).set i [.d .any]) ?_ (Uc h5) ?_
 ·rw[sI,gl]
  simp only[cm,c8,TB]
 ·rw[Vf,Dl];rfl
theorem kP {C:Nat} {g:List (List SV)} (hh:h id= .vec e 1 (g++[[.ref C 0]])) (t:bL g (au [.pt ms] (hZ H) l)) (hj:h C= .box cs) (hc:ag cs (bi ms (H x'))) (I:∀ x,(H x).length=ms.length) (U:id≠C):
  bm ⟨s,h⟩ ⟨bl C .any s,am (am (bG C .any h) id (.vec e 1 (au [.pt ms] (hZ H) (l++[x'])))) C .dead⟩:=by
 have i0:bm ⟨s,h⟩ ⟨s,am h id (.vec e 1 (au [.pt ms] (hZ H) l++[[.ref C 0]]))⟩:=mH (fun _=> .inl rfl) fun j=>by
  by_cases r3:j=id
  ·subst r3;simp only[am,TB,hh];exact dG (t.append bL.rfl)
  ·simp only[am,r3,Tq];exact aN rfl
 refine i0.trans ?_
 have X:(au [.pt ms] (hZ H) l++[[SV.ref C 0]])[l.length]?=some [.ref C 0]:=by
  rw[Tr (by rw[cU];exact SZ _),cU,T9];rfl
 have d:(au [.pt ms] (hZ H) l++[[SV.d .any]])[l.length]?=some [.d .any]:=by
  rw[Tr (by rw[cU];exact SZ _),cU,T9];rfl
 have D:∀ (a b:List (List SV)),c0 C .any (a++b)=c0 C .any a++c0 C .any b:=fun a b=>by
  induction a with
  |nil=>rfl
  |cons r a ih=>simp only[Td,c0,ih]
 have n:=yE (s:=s) (h:=am h id (.vec e 1 (au [.pt ms] (hZ H) l++[[.ref C 0]]))) (id:=id) (C:=C) (e:=e) (i:=l.length) (cs:=cs) (ms:=ms) (H:=H) (x':=x') (q:= .d .any) (R:=au [.pt ms] (hZ H) l++[[.ref C 0]]) (f:=au [.pt ms] (hZ H) l++[[.d .any]]) (R2:=au [.pt ms] (hZ H) (l++[x']))
  (by simp only[am,TB]) X (by simp only[am,Ne.symm U,Tq,hj]) hc (I _) U (by rw[D,gl];simp only[c0,cm,c8,TB]) d
  (by rw[ro,T3 _ _ (by rw[cU];exact SZ _),cU,T9];rfl)
 have e1:(⟨bl C .any s,am (am (bG C .any (am h id (.vec e 1 (au [.pt ms] (hZ H) l++[[.ref C 0]])))) id (.vec e 1 (au [.pt ms] (hZ H) (l++[x'])))) C .dead⟩:St)=⟨bl C .any s,am (am (bG C .any h) id (.vec e 1 (au [.pt ms] (hZ H) (l++[x'])))) C .dead⟩:=by
  congr 1
  funext j
  by_cases c:j=C
  ·simp only[am,c,TB]
  ·by_cases r4:j=id
   ·simp only[am,c,r4,Tq,TB]
   ·simp only[am,c,r4,Tq,bG]
 rw[e1] at n
 exact n
theorem Hc {W:List (K×V)} (hh:h id= .box cs) (hc:cs[off]?=some (.own (.mp kk .sh) (JA u w W))) (U:id≠t) (I:(cm t .any cs).set off (.mp t)=C):
  bm ⟨s,h⟩ ⟨bl t .any s,am (am (bG t .any h) id (.box C)) t (.map kk (kw u (fun v=> .d (w v)) W))⟩:=by
 subst I
 refine sG (σ:=⟨s,h⟩) (p:= .b off) U ?_
 have hg:jZ (h id) (.b off)=some (.own (.mp kk .sh) (JA u w W)):=by simp only[hh,jZ,hc]
 simp only[rb,hg,Ie]
 simp only[hh,jY,sK]
theorem Pd {W:List (K×V)} (hh:h id= .box cs) (hc:cs[off]?=some (.own (.mp kk .sh) (JA u w W))) (U:id≠t) (I:(cm t .any cs).set off (.mp t)=C) (hk:aD P G (.o dst op::sos) ⟨bl t .any s,am (am (bG t .any h) id (.box C)) t (.map kk (kw u (fun v=> .d (w v)) W))⟩):aD P G (.o dst op::sos) ⟨s,h⟩:=Lz (Hc hh hc U I) hk
theorem d_ {ch:Ch} {W:List (K×V)} (hh:h id= .box cs) (hc:cs[off]?=some (.mp t)) (U:id≠t) (hj:h t=ch) (D:xI ch (.map kk (kw u (fun v=> .d (w v)) W))) (I:(cm t .any cs).set off (.own (.mp kk .sh) (JA u w W))=C):
  bm ⟨s,h⟩ ⟨bl t .any s,am (am (bG t .any h) id (.box C)) t .dead⟩:=by
 subst I
 have i0:bm ⟨s,h⟩ ⟨s,am h t (.map kk (kw u (fun v=> .d (w v)) W))⟩:=mH (fun _=> .inl rfl) fun j=>by
  by_cases r3:j=t
  ·subst r3;simp only[am,TB,hj];exact D
  ·simp only[am,r3,Tq];exact aN rfl
 have n:=nO (σ:=⟨s,am h t (.map kk (kw u (fun v=> .d (w v)) W))⟩) (id:=id) (g:=t) (p:= .b off) (m:= .mp kk .sh) (d:=JA u w W) (ch:= .map kk (kw u (fun v=> .d (w v)) W)) (mk:= .mp) U
  (Ie W) (Lv W) (by simp only[am,U,Tq,hh,jZ,hc]) (by simp only[am,TB])
 have e1:iu ⟨s,am h t (.map kk (kw u (fun v=> .d (w v)) W))⟩ id (.b off) t (.mp kk .sh) (JA u w W)=⟨bl t .any s,am (am (bG t .any h) id (.box ((cm t .any cs).set off (.own (.mp kk .sh) (JA u w W))))) t .dead⟩:=by
  simp only[iu,am,U,Tq,hh,jY,sK]
  congr 1
  funext i
  by_cases hi:i=t
  ·subst hi;simp only[am,TB]
  ·by_cases r9:i=id
   ·subst r9;simp only[am,hi,Tq,TB]
   ·simp only[am,hi,r9,Tq,bG]
 rw[e1] at n
 exact i0.trans n
theorem JE {k:List α->Option R} (Z:(cz l 0 m).bind k=some r) (hx:ev s y= .vec id) (hy:ev s z= .d (.int b m)) (hh:h id= .vec e sz rows) (hl:rows.length=l.length) (ht:rows.take m.toNat=(au ms H l).take m.toNat) (hk:∀ l',k l'=some r->aD P G sos ⟨am (bl id .any s) dst (.vec id),am (bG id .any h) id (.vec e sz (au ms H l'))⟩):aD P G (.w dst (.trunc sz y z)::sos) ⟨s,h⟩:=by
 cases hs:cz l 0 m with
 |none=>rw[hs] at Z;cases Z
 |some l'=>
  rw[hs] at Z
  unfold cz at hs
  split at hs
  ·rename_i h0
   simp only[SN] at hs
   have f:l'=l.take m.toNat:=by rw[<-hs];simp
   refine uB (p:=sz=sz/\0<=m/\m<=rows.length) ?_ ⟨rfl,by omega,by omega⟩ (hk l' Z)
   simp only[wr,hx,hy,hh,cy,St.swap,ht]
   rw[show(au ms H l).take m.toNat=au ms H l' by rw[f];simp[au,UZ],gl]
  ·cases hs
theorem Hd {late:List (Nat×Nat×oX)} {k:List α->Option R} (Z:(cz l 0 m).bind k=some r) (hx:ev s y= .vec id) (hy:ev s z= .d (.int b m)) (hh:h id= .vec e sz rows) (hl:rows.length=l.length) (ht:rows.take m.toNat=(au ms H l).take m.toNat) (a:∀ l':List α,l'.length=m.toNat->oQ ⟨am (bl id .any s) dst (.vec id),am (bG id .any h) id (.vec e sz (au ms H l'))⟩ late) (hk:∀ l',k l'=some r->aD P G sos ⟨am (bl id .any s) dst (.vec id),am (bG id .any h) id (.vec e sz (au ms H l'))⟩):aD P G (.x dst (.trunc sz y z) late::sos) ⟨s,h⟩:=by
 cases hs:cz l 0 m with
 |none=>rw[hs] at Z;cases Z
 |some l'=>
  rw[hs] at Z
  unfold cz at hs
  split at hs
  ·rename_i h0
   simp only[SN] at hs
   have f:l'=l.take m.toNat:=by rw[<-hs];simp
   refine B2 (p:=sz=sz/\0<=m/\m<=rows.length) ?_ ⟨rfl,by omega,by omega⟩ (a l' (by rw[f,Th];omega)) (hk l' Z)
   simp only[wr,hx,hy,hh,cy,St.swap,ht]
   rw[show(au ms H l).take m.toNat=au ms H l' by rw[f];simp[au,UZ],gl]
  ·cases hs
end
end Go.Proofs.YtgmnipfafmphaaaGreatDoor

