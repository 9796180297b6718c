/-
  My text.
-/
import Derived.Test.YtgmnipfafmphaaaGreatDoorSXEngRp
import Derived.Test.YtgmnipfafmphaaaGreatDoorSXPL
namespace Go.Proofs.YtgmnipfafmphaaaGreatDoor
set_option linter.unusedSimpArgs false
set_option linter.unusedVariables false
open Go.RowKit
variable {C:List SV} {R V:Type} {b:IntKind} {cs:List SV} {dst e i id:Nat} {m:Int} {off:Nat} {op:sA} {rows:List (List SV)} {sz t:Nat} {y z:SX} {α:Type} {W:List (List UInt8×V)} {f:V->DV} {g:V->SV} {r:R}
theorem LJ {K:Type} {G:K->DV} (id:Nat) (o:DV) (W:List (K×V)):vT id o (nz G (fun v=> .d (f v)) W)=nz G (fun v=> .d (f v)) W:=Io id o (fun _=>rfl) W
attribute [push_cast] LJ
section
variable {P:Program} {s:Nat->SV} {h:Nat->Ch} {K:St->Prop} {sos:List SO} {α:Type} {H:α->List DV}
theorem PQ {z:SV} {m k:SX} {key:List UInt8} {z0:V} (hx:ev s m= .mp id) (hk:ev s k= .d (.str key)) (hh:h id= .map .str (nz .str g W)) (a:g=fun v=> .d (f v)) (hz:z= .d (f z0)) (i:aI P K sos ⟨ap s dst (.d (f ((xB W key).getD z0))),h⟩):aI P K (.r dst (.look .str z false m k)::sos) ⟨s,h⟩:=by
 subst a hz
 refine P0 hx hk hh ?_ rfl i
 unfold xS
 rw[FM]
 cases xB W key<;>rfl
theorem LK {k:List UInt8} {v:V} {x:SV} (hx:x=g v):Ax (.map .str (pq (nz .str g W) (.str k) x)) (.map .str (nz .str g (Im W k v))):=by
 subst hx
 rw[FN]
 exact bT rfl
end
def l6 (H:α->List DV) (x:α):List DV:=[.ptr (H x)]
theorem Fu {β:Type} {L:List β} {k:Nat} {c:β} (h:k<=i):(L.set i c).take k=L.take k:=by
 apply List.ext_getElem?
 intro j
 by_cases hj:j<k
 ·rw[WH hj,WH hj,List.getElem?_set_ne oM]
 ·rw[List.getElem?_eq_none oT,List.getElem?_eq_none oT]
theorem H9 {l:List α} {k:Nat} {x:α} (h:aV l (k:Int)=some x):l[k]?=some x:=by rwa[am] at h
section
variable {P:Program} {B:SC} {Q:AX->St->Prop} {s:Nat->SV} {h:Nat->Ch} {M:St->Prop} {sos:List SO} {α K V:Type} {H:α->List DV} {ms:List bH} {l:List α} {x x':α} {G:K->DV} {w:V->DV} {kk:KK} {σ O:St}
theorem KB (B:SC) (hi:bt σ O) (hk:AW P B Q O):AW P B Q σ:=p2 hi hk
theorem NG {s':Nat->SV} {h':Nat->Ch} (hi:bt ⟨s,h⟩ ⟨s',h'⟩) (hk:aI P M (.o dst op::sos) ⟨s',h'⟩):aI P M (.o dst op::sos) ⟨s,h⟩:=by
 obtain⟨z,h1,h2⟩:=hk
 exact⟨z,hi.trans h1,h2⟩
theorem JC {C:Nat} (hh:h id= .vec e 1 (ar [.pt ms] (l6 H) l)) (hx:l[i]?=some x) (U:id≠C):
  bt ⟨s,h⟩ ⟨bG C .any s,ap (ap (bK C .any h) id (.vec e 1 ((ar [.pt ms] (l6 H) l).set i [.ref C 0]))) C (.box (bA ms (H x)))⟩:=by
 refine vW (σ:=⟨s,h⟩) (p:= .v i 0) U ?_
 have L:mm (h id) (.v i 0)=some (.own (.pt ms) (.ptr (H x))):=by
  simp only[hh,mm,rA hx];rfl
 simp only[uy,L,cP]
 simp only[hh,mj,g9,ux,rA hx]
 rfl
theorem QX {a C:Nat} (Y:s a= .vref id 1 i 0) (hh:h id= .vec e 1 (ar [.pt ms] (l6 H) l)) (hx:l[i]?=some x) (U:id≠C) (hk:aI P M (.o dst (.ld1 (.t a))::sos) ⟨bG C .any s,ap (ap (bK C .any h) id (.vec e 1 ((ar [.pt ms] (l6 H) l).set i [.ref C 0]))) C (.box (bA ms (H x)))⟩):aI P M (.o dst (.ld1 (.t a))::sos) ⟨s,h⟩:=
 NG (JC hh hx U) hk
theorem Bt {C:Nat} {q:SV} {R c R2:List (List SV)} (hh:h id= .vec e 1 R) (L:R[i]?=some [.ref C 0]) (hj:h C= .box cs) (hc:ae cs (bA ms (H x'))) (I:(H x').length=ms.length) (U:id≠C) (h1:dz C .any R=c) (hq:c[i]?=some [q]) (h2:c.set i [.own (.pt ms) (.ptr (H x'))]=R2):bt ⟨s,h⟩ ⟨bG C .any s,ap (ap (bK C .any h) id (.vec e 1 R2)) C .dead⟩:=by
 subst h1 h2
 have n:bt ⟨s,h⟩ ⟨s,ap h C (.box (bA ms (H x')))⟩:=Cl hj hc
 have o:=nN (σ:=⟨s,ap h C (.box (bA ms (H x')))⟩) (id:=id) (g:=C) (p:= .v i 0) (m:= .pt ms) (d:= .ptr (H x')) (ch:= .box (bA ms (H x'))) (mk:=fun j=> .ref j 0) U
  rfl I (by simp only[ap,U,VQ,hh,mm,L];rfl) (by simp only[ap,VW])
 have e1:hR ⟨s,ap h C (.box (bA ms (H x')))⟩ id (.v i 0) C (.pt ms) (.ptr (H x'))=⟨bG C .any s,ap (ap (bK C .any h) id (.vec e 1 ((dz C .any R).set i [.own (.pt ms) (.ptr (H x'))]))) C .dead⟩:=by
  simp only[hR,ap,U,VQ,hh,mj]
  congr 1
  funext j
  by_cases u:j=C
  ·subst u;simp only[ap,VW]
  ·by_cases r4:j=id
   ·subst r4
    simp only[ap,u,VQ,VW,ux,hq]
    rfl
   ·simp only[ap,u,r4,VQ,bK]
 rw[e1] at o
 exact n.trans o
theorem p6 {C:Nat} (hh:h id= .vec e 1 ((ar [.pt ms] (l6 H) l).set i [.ref C 0])) (hj:h C= .box cs) (hc:ae cs (bA ms (H x'))) (I:∀ x,(H x).length=ms.length) (hi:i<l.length) (U:id≠C):
  bt ⟨s,h⟩ ⟨bG C .any s,ap (ap (bK C .any h) id (.vec e 1 (ar [.pt ms] (l6 H) (l.set i x')))) C .dead⟩:=by
 have h5:i<(ar [.pt ms] (l6 H) l).length:=by rw[du];exact hi
 refine Bt (q:= .d .any) hh (Wg h5) hj hc (I _) U (c:=(ar [.pt ms] (l6 H) l).set i [.d .any]) ?_ (Wg h5) ?_
 ·rw[tR,g9]
  simp only[ck,d6,VW]
 ·rw[Xq,xq];rfl
theorem nS {C:Nat} {f:List (List SV)} (hh:h id= .vec e 1 (f++[[.ref C 0]])) (t:bv f (ar [.pt ms] (l6 H) l)) (hj:h C= .box cs) (hc:ae cs (bA ms (H x'))) (I:∀ x,(H x).length=ms.length) (U:id≠C):
  bt ⟨s,h⟩ ⟨bG C .any s,ap (ap (bK C .any h) id (.vec e 1 (ar [.pt ms] (l6 H) (l++[x'])))) C .dead⟩:=by
 have i0:bt ⟨s,h⟩ ⟨s,ap h id (.vec e 1 (ar [.pt ms] (l6 H) l++[[.ref C 0]]))⟩:=mJ (fun _=> .inl rfl) fun j=>by
  by_cases X:j=id
  ·subst X;simp only[ap,VW,hh];exact fO (t.append bv.rfl)
  ·simp only[ap,X,VQ];exact bT rfl
 refine i0.trans ?_
 have h9:(ar [.pt ms] (l6 H) l++[[SV.ref C 0]])[l.length]?=some [.ref C 0]:=by
  rw[VP (by rw[du];exact Vs _),du,Wn];rfl
 have d:(ar [.pt ms] (l6 H) l++[[SV.d .any]])[l.length]?=some [.d .any]:=by
  rw[VP (by rw[du];exact Vs _),du,Wn];rfl
 have D:∀ (a b:List (List SV)),dz C .any (a++b)=dz C .any a++dz C .any b:=fun a b=>by
  induction a with
  |nil=>rfl
  |cons r a ih=>simp only[VG,dz,ih]
 have n:=Bt (s:=s) (h:=ap h id (.vec e 1 (ar [.pt ms] (l6 H) l++[[.ref C 0]]))) (id:=id) (C:=C) (e:=e) (i:=l.length) (cs:=cs) (ms:=ms) (H:=H) (x':=x') (q:= .d .any) (R:=ar [.pt ms] (l6 H) l++[[.ref C 0]]) (c:=ar [.pt ms] (l6 H) l++[[.d .any]]) (R2:=ar [.pt ms] (l6 H) (l++[x']))
  (by simp only[ap,VW]) h9 (by simp only[ap,Ne.symm U,VQ,hj]) hc (I _) U (by rw[D,g9];simp only[dz,ck,d6,VW]) d
  (by rw[uI,We _ _ (by rw[du];exact Vs _),du,Wn];rfl)
 have e1:(⟨bG C .any s,ap (ap (bK C .any (ap h id (.vec e 1 (ar [.pt ms] (l6 H) l++[[.ref C 0]])))) id (.vec e 1 (ar [.pt ms] (l6 H) (l++[x'])))) C .dead⟩:St)=⟨bG C .any s,ap (ap (bK C .any h) id (.vec e 1 (ar [.pt ms] (l6 H) (l++[x'])))) C .dead⟩:=by
  congr 1
  funext j
  by_cases u:j=C
  ·simp only[ap,u,VW]
  ·by_cases r4:j=id
   ·simp only[ap,r4,VW]
   ·simp only[ap,u,r4,VQ,bK]
 rw[e1] at n
 exact n
theorem JD {W:List (K×V)} (hh:h id= .box cs) (hc:cs[off]?=some (.own (.mp kk .sh) (LI G w W))) (U:id≠t) (I:(ck t .any cs).set off (.mp t)=C):
  bt ⟨s,h⟩ ⟨bG t .any s,ap (ap (bK t .any h) id (.box C)) t (.map kk (nz G (fun v=> .d (w v)) W))⟩:=by
 subst I
 refine vW (σ:=⟨s,h⟩) (p:= .b off) U ?_
 have L:mm (h id) (.b off)=some (.own (.mp kk .sh) (LI G w W)):=by simp only[hh,mm,hc]
 simp only[uy,L,KA]
 simp only[hh,mj,ux]
theorem QY {W:List (K×V)} (hh:h id= .box cs) (hc:cs[off]?=some (.own (.mp kk .sh) (LI G w W))) (U:id≠t) (I:(ck t .any cs).set off (.mp t)=C) (hk:aI P M (.o dst op::sos) ⟨bG t .any s,ap (ap (bK t .any h) id (.box C)) t (.map kk (nz G (fun v=> .d (w v)) W))⟩):aI P M (.o dst op::sos) ⟨s,h⟩:=NG (JD hh hc U I) hk
theorem kN {ch:Ch} {W:List (K×V)} (hh:h id= .box cs) (hc:cs[off]?=some (.mp t)) (U:id≠t) (hj:h t=ch) (D:Ax ch (.map kk (nz G (fun v=> .d (w v)) W))) (I:(ck t .any cs).set off (.own (.mp kk .sh) (LI G w W))=C):
  bt ⟨s,h⟩ ⟨bG t .any s,ap (ap (bK t .any h) id (.box C)) t .dead⟩:=by
 subst I
 have i0:bt ⟨s,h⟩ ⟨s,ap h t (.map kk (nz G (fun v=> .d (w v)) W))⟩:=mJ (fun _=> .inl rfl) fun j=>by
  by_cases X:j=t
  ·subst X;simp only[ap,VW,hj];exact D
  ·simp only[ap,X,VQ];exact bT rfl
 have n:=nN (σ:=⟨s,ap h t (.map kk (nz G (fun v=> .d (w v)) W))⟩) (id:=id) (g:=t) (p:= .b off) (m:= .mp kk .sh) (d:=LI G w W) (ch:= .map kk (nz G (fun v=> .d (w v)) W)) (mk:= .mp) U
  (KA W) (NC W) (by simp only[ap,U,VQ,hh,mm,hc]) (by simp only[ap,VW])
 have e1:hR ⟨s,ap h t (.map kk (nz G (fun v=> .d (w v)) W))⟩ id (.b off) t (.mp kk .sh) (LI G w W)=⟨bG t .any s,ap (ap (bK t .any h) id (.box ((ck t .any cs).set off (.own (.mp kk .sh) (LI G w W))))) t .dead⟩:=by
  simp only[hR,ap,U,VQ,hh,mj,ux]
  congr 1
  funext i
  by_cases hi:i=t
  ·subst hi;simp only[ap,VW]
  ·by_cases r5:i=id
   ·subst r5;simp only[ap,hi,VQ,VW]
   ·simp only[ap,hi,r5,VQ,bK]
 rw[e1] at n
 exact i0.trans n
theorem PR {v:SX} {d:DV} (Y:ev s y= .vref id sz i off) (hv:(ev s v).cells?=some [.d d]) (hh:h id= .vec e sz (ar ms H l)) (he:l[i]?=some x) (j:ms[off]?=some .sh) (hx:(H x).set off d=H x') (I:∀ x,(H x).length=ms.length) (hk:aI P M sos ⟨s,ap h id (.vec e sz (ar ms H (l.set i x')))⟩):aI P M (.w 0 (.st 1 y v)::sos) ⟨s,h⟩:=by
 have L:=rA (ms:=ms) (H:=H) he
 have ho:off<ms.length:=(Vr.1 j).1
 have hl:(bA ms (H x)).length=ms.length:=by
  unfold bA
  simp only[List.length_zipWith,I,Nat.min_self]
 refine tD (p:=sz=sz/\[SV.d d].length=1/\off+1<=(bA ms (H x)).length) ?_ ⟨rfl,rfl,by omega⟩ hk
 simp only[wr,Y,hv,hh,L]
 have e1:splice (bA ms (H x)) off [SV.d d]=bA ms (H x'):=by
  rw[we oM,<-hx]
  exact DP (m:= .sh) j
 rw[e1,xq]
theorem Fv {k:List α->Option R} (Z:(b5 l 0 m).bind k=some r) (hx:ev s y= .vec id) (hy:ev s z= .d (.int b m)) (hh:h id= .vec e sz rows) (hl:rows.length=l.length) (ht:rows.take m.toNat=(ar ms H l).take m.toNat) (hk:∀ l',k l'=some r->aI P M sos ⟨ap (bG id .any s) dst (.vec id),ap (bK id .any h) id (.vec e sz (ar ms H l'))⟩):aI P M (.w dst (.trunc sz y z)::sos) ⟨s,h⟩:=by
 cases hs:b5 l 0 m with
 |none=>rw[hs] at Z;cases Z
 |some l'=>
  rw[hs] at Z
  unfold b5 at hs
  split at hs
  ·rename_i h0
   simp only[Vi] at hs
   have f:l'=l.take m.toNat:=by rw[<-hs];simp
   refine tD (p:=sz=sz/\0<=m/\m<=rows.length) ?_ ⟨rfl,by omega,by omega⟩ (hk l' Z)
   simp only[wr,hx,hy,hh,dh,St.swap,ht]
   rw[show(ar ms H l).take m.toNat=ar ms H l' by rw[f];simp[ar,Xt],g9]
  ·cases hs
theorem Dr {late:List (Nat×Nat×sA)} {k:List α->Option R} (Z:(b5 l 0 m).bind k=some r) (hx:ev s y= .vec id) (hy:ev s z= .d (.int b m)) (hh:h id= .vec e sz rows) (hl:rows.length=l.length) (ht:rows.take m.toNat=(ar ms H l).take m.toNat) (a:∀ l':List α,l'.length=m.toNat->su ⟨ap (bG id .any s) dst (.vec id),ap (bK id .any h) id (.vec e sz (ar ms H l'))⟩ late) (hk:∀ l',k l'=some r->aI P M sos ⟨ap (bG id .any s) dst (.vec id),ap (bK id .any h) id (.vec e sz (ar ms H l'))⟩):aI P M (.x dst (.trunc sz y z) late::sos) ⟨s,h⟩:=by
 cases hs:b5 l 0 m with
 |none=>rw[hs] at Z;cases Z
 |some l'=>
  rw[hs] at Z
  unfold b5 at hs
  split at hs
  ·rename_i h0
   simp only[Vi] at hs
   have f:l'=l.take m.toNat:=by rw[<-hs];simp
   refine Bj (p:=sz=sz/\0<=m/\m<=rows.length) ?_ ⟨rfl,by omega,by omega⟩ (a l' (by rw[f,VA];omega)) (hk l' Z)
   simp only[wr,hx,hy,hh,dh,St.swap,ht]
   rw[show(ar ms H l).take m.toNat=ar ms H l' by rw[f];simp[ar,Xt],g9]
  ·cases hs
end
