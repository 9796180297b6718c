/-
  My text.
-/
import Derived.Test.YtgmnipfafmphaaaGreatDoorSZEngRp
import Derived.Test.YtgmnipfafmphaaaGreatDoorSZEngRg
import Derived.Test.YtgmnipfafmphaaaGreatDoorSZPL
namespace Go.Proofs.YtgmnipfafmphaaaGreatDoor
set_option linter.unusedSimpArgs false
set_option linter.unusedVariables false
open Go.RowKit
theorem Dx {K V:Type} {ke:K->DV} {f:V->DV} (id:Nat) (dv:DV) (W:List (K×V)):j9 id dv (ik ke (fun v=> .d (f v)) W)=ik ke (fun v=> .d (f v)) W:=wA id dv (fun _=>rfl) W
attribute [push_cast] Dx
section
variable {P:Program} {s:Nat->SV} {h:Nat->Ch} {K:St->Prop} {sos:List SO} {α:Type} {row:α->List DV}
theorem Hj {V:Type} {dst id:Nat} {z:SV} {m k:SX} {W:List (List UInt8×V)} {key:List UInt8} {f:V->DV} {z0:V} {ve:V->SV} (hx:ev s m= .mp id) (hk:ev s k= .d (.str key)) (hh:h id= .map .str (ik .str ve W)) (hve:ve=fun v=> .d (f v)) (hz:z= .d (f z0))
  (hrest:aA P K sos ⟨ak s dst (.d (f ((qj W key).getD z0))),h⟩):aA P K (.r dst (.look .str z false m k)::sos) ⟨s,h⟩:=by
 subst hve hz
 refine Hs hx hk hh ?_ rfl hrest
 unfold qr
 rw[yz]
 cases qj W key<;>rfl
theorem Dy {V:Type} {W:List (List UInt8×V)} {k:List UInt8} {v:V} {x:SV} {ve:V->SV} (hx:x=ve v):tm (.map .str (fJ (ik .str ve W) (.str k) x)) (.map .str (ik .str ve (A8 W k v))):=by
 subst hx
 rw[yA]
 exact bk rfl
end
def fS {α:Type} (row:α->List DV) (x:α):List DV:=[.ptr (row x)]
theorem Dz {β:Type} {L:List β} {i k:Nat} {c:β} (h:k<=i):(L.set i c).take k=L.take k:=by
 apply List.ext_getElem?
 intro j
 by_cases hj:j<k
 ·rw[Md hj,Md hj,List.getElem?_set_ne oM]
 ·rw[List.getElem?_eq_none oT,List.getElem?_eq_none oT]
section
variable {P:Program} {x0:SC} {Q:AX->St->Prop} {s:Nat->SV} {h:Nat->Ch} {Kk:St->Prop} {sos:List SO} {α K V:Type} {row:α->List DV} {ms:List aL} {l:List α} {x x':α} {ke:K->DV} {fv:V->DV} {kk:KK} {σ σ':St}
theorem CM (x0:SC) (hi:ce σ σ') (hk:AW P x0 Q σ'):AW P x0 Q σ:=Aw hi hk
theorem Fk {dst:Nat} {op:l_} {s':Nat->SV} {h':Nat->Ch} (hi:ce ⟨s,h⟩ ⟨s',h'⟩) (hk:aA P Kk (.o dst op::sos) ⟨s',h'⟩):aA P Kk (.o dst op::sos) ⟨s,h⟩:=by
 obtain⟨σ1,h1,h2⟩:=hk
 exact⟨σ1,hi.trans h1,h2⟩
theorem BZ {id C e i:Nat} (hh:h id= .vec e 1 (aw [.pt ms] (fS row) l)) (hx:l[i]?=some x) (hne:id≠C):
  ce ⟨s,h⟩ ⟨ca C .any s,ak (ak (ct C .any h) id (.vec e 1 ((aw [.pt ms] (fS row) l).set i [.ref C 0]))) C (.box (bW ms (row x)))⟩:=by
 refine rO (σ:=⟨s,h⟩) (p:= .v i 0) hne ?_
 have hg:jw (h id) (.v i 0)=some (.own (.pt ms) (.ptr (row x))):=by
  simp only[hh,jw,yE hx];rfl
 simp only[oP,hg,bX]
 simp only[hh,jf,fC,qW,yE hx]
 rfl
theorem Id {dst tp id C e i:Nat} (hp:s tp= .vref id 1 i 0) (hh:h id= .vec e 1 (aw [.pt ms] (fS row) l)) (hx:l[i]?=some x) (hne:id≠C)
  (hk:aA P Kk (.o dst (.ld1 (.t tp))::sos) ⟨ca C .any s,ak (ak (ct C .any h) id (.vec e 1 ((aw [.pt ms] (fS row) l).set i [.ref C 0]))) C (.box (bW ms (row x)))⟩):aA P Kk (.o dst (.ld1 (.t tp))::sos) ⟨s,h⟩:=
 Fk (BZ hh hx hne) hk
theorem ud {id C e i:Nat} {cs:List SV} {q:SV} {R R1 R2:List (List SV)} (hh:h id= .vec e 1 R) (hg:R[i]?=some [.ref C 0]) (hj:h C= .box cs) (hc:aC cs (bW ms (row x'))) (hlen:(row x').length=ms.length) (hne:id≠C) (h1:cF C .any R=R1) (hq:R1[i]?=some [q])
  (h2:R1.set i [.own (.pt ms) (.ptr (row x'))]=R2):ce ⟨s,h⟩ ⟨ca C .any s,ak (ak (ct C .any h) id (.vec e 1 R2)) C .dead⟩:=by
 subst h1 h2
 have i1:ce ⟨s,h⟩ ⟨s,ak h C (.box (bW ms (row x')))⟩:=vc hj hc
 have i2:=m8 (σ:=⟨s,ak h C (.box (bW ms (row x')))⟩) (id:=id) (id':=C) (p:= .v i 0) (m:= .pt ms) (d:= .ptr (row x')) (ch:= .box (bW ms (row x'))) (mk:=fun j=> .ref j 0) hne
  rfl hlen (by simp only[ak,hne,LI,hh,jw,hg];rfl) (by simp only[ak,LX])
 have e1:g_ ⟨s,ak h C (.box (bW ms (row x')))⟩ id (.v i 0) C (.pt ms) (.ptr (row x'))=⟨ca C .any s,ak (ak (ct C .any h) id (.vec e 1 ((cF C .any R).set i [.own (.pt ms) (.ptr (row x'))]))) C .dead⟩:=by
  simp only[g_,ak,hne,LI,hh,jf]
  congr 1
  funext j
  by_cases hj1:j=C
  ·subst hj1;simp only[ak,LX]
  ·by_cases hj2:j=id
   ·subst hj2
    simp only[ak,hj1,LI,LX,qW,hq]
    rfl
   ·simp only[ak,hj1,hj2,LI,ct]
 rw[e1] at i2
 exact i1.trans i2
theorem gR {id C e i:Nat} {cs:List SV} (hh:h id= .vec e 1 ((aw [.pt ms] (fS row) l).set i [.ref C 0])) (hj:h C= .box cs) (hc:aC cs (bW ms (row x'))) (hlen:∀ x,(row x).length=ms.length) (hi:i<l.length) (hne:id≠C):
  ce ⟨s,h⟩ ⟨ca C .any s,ak (ak (ct C .any h) id (.vec e 1 (aw [.pt ms] (fS row) (l.set i x')))) C .dead⟩:=by
 have hi':i<(aw [.pt ms] (fS row) l).length:=by rw[cX];exact hi
 refine ud (q:= .d .any) hh (MU hi') hj hc (hlen _) hne (R1:=(aw [.pt ms] (fS row) l).set i [.d .any]) ?_ (MU hi') ?_
 ·rw[rP,fC]
  simp only[b8,cr,LX]
 ·rw[List.set_set,DM];rfl
theorem iX {id C e:Nat} {cs:List SV} {R0:List (List SV)} (hh:h id= .vec e 1 (R0++[[.ref C 0]])) (hR:cH R0 (aw [.pt ms] (fS row) l)) (hj:h C= .box cs) (hc:aC cs (bW ms (row x'))) (hlen:∀ x,(row x).length=ms.length) (hne:id≠C):
  ce ⟨s,h⟩ ⟨ca C .any s,ak (ak (ct C .any h) id (.vec e 1 (aw [.pt ms] (fS row) (l++[x'])))) C .dead⟩:=by
 have i0:ce ⟨s,h⟩ ⟨s,ak h id (.vec e 1 (aw [.pt ms] (fS row) l++[[.ref C 0]]))⟩:=lL (fun _=> .inl rfl) fun j=>by
  by_cases hj':j=id
  ·subst hj';simp only[ak,LX,hh];exact gU (hR.append cH.rfl)
  ·simp only[ak,hj',LI];exact bk rfl
 refine i0.trans ?_
 have hlt:(aw [.pt ms] (fS row) l++[[SV.ref C 0]])[l.length]?=some [.ref C 0]:=by
  rw[Lv (by rw[cX];exact K9 _),cX,MZ];rfl
 have hlt2:(aw [.pt ms] (fS row) l++[[SV.d .any]])[l.length]?=some [.d .any]:=by
  rw[Lv (by rw[cX];exact K9 _),cX,MZ];rfl
 have hr:∀ (a b:List (List SV)),cF C .any (a++b)=cF C .any a++cF C .any b:=fun a b=>by
  induction a with
  |nil=>rfl
  |cons r a ih=>simp only[Lw,cF,ih]
 have i1:=ud (s:=s) (h:=ak h id (.vec e 1 (aw [.pt ms] (fS row) l++[[.ref C 0]]))) (id:=id) (C:=C) (e:=e) (i:=l.length) (cs:=cs) (ms:=ms) (row:=row) (x':=x') (q:= .d .any) (R:=aw [.pt ms] (fS row) l++[[.ref C 0]]) (R1:=aw [.pt ms] (fS row) l++[[.d .any]]) (R2:=aw [.pt ms] (fS row) (l++[x']))
  (by simp only[ak,LX]) hlt (by simp only[ak,Ne.symm hne,LI,hj]) hc (hlen _) hne (by rw[hr,fC];simp only[cF,b8,cr,LX]) hlt2
  (by rw[sc,MW _ _ (by rw[cX];exact K9 _),cX,MZ];rfl)
 have e1:(⟨ca C .any s,ak (ak (ct C .any (ak h id (.vec e 1 (aw [.pt ms] (fS row) l++[[.ref C 0]])))) id (.vec e 1 (aw [.pt ms] (fS row) (l++[x'])))) C .dead⟩:St)=⟨ca C .any s,ak (ak (ct C .any h) id (.vec e 1 (aw [.pt ms] (fS row) (l++[x'])))) C .dead⟩:=by
  congr 1
  funext j
  by_cases hj1:j=C
  ·simp only[ak,hj1,LX]
  ·by_cases hj2:j=id
   ·simp only[ak,hj1,hj2,LI,LX]
   ·simp only[ak,hj1,hj2,LI,ct]
 rw[e1] at i1
 exact i1
theorem B0 {id mid off:Nat} {cs cs':List SV} {W:List (K×V)} (hh:h id= .box cs) (hc:cs[off]?=some (.own (.mp kk .sh) (Dw ke fv W))) (hne:id≠mid) (hset:(b8 mid .any cs).set off (.mp mid)=cs'):
  ce ⟨s,h⟩ ⟨ca mid .any s,ak (ak (ct mid .any h) id (.box cs')) mid (.map kk (ik ke (fun v=> .d (fv v)) W))⟩:=by
 subst hset
 refine rO (σ:=⟨s,h⟩) (p:= .b off) hne ?_
 have hg:jw (h id) (.b off)=some (.own (.mp kk .sh) (Dw ke fv W)):=by simp only[hh,jw,hc]
 simp only[oP,hg,CL]
 simp only[hh,jf,qW]
theorem Ie {dst id mid off:Nat} {op:l_} {cs cs':List SV} {W:List (K×V)} (hh:h id= .box cs) (hc:cs[off]?=some (.own (.mp kk .sh) (Dw ke fv W))) (hne:id≠mid) (hset:(b8 mid .any cs).set off (.mp mid)=cs')
  (hk:aA P Kk (.o dst op::sos) ⟨ca mid .any s,ak (ak (ct mid .any h) id (.box cs')) mid (.map kk (ik ke (fun v=> .d (fv v)) W))⟩):aA P Kk (.o dst op::sos) ⟨s,h⟩:=Fk (B0 hh hc hne hset) hk
theorem dh {id mid off:Nat} {cs cs':List SV} {ch:Ch} {W:List (K×V)} (hh:h id= .box cs) (hc:cs[off]?=some (.mp mid)) (hne:id≠mid) (hj:h mid=ch) (hr:tm ch (.map kk (ik ke (fun v=> .d (fv v)) W))) (hset:(b8 mid .any cs).set off (.own (.mp kk .sh) (Dw ke fv W))=cs'):
  ce ⟨s,h⟩ ⟨ca mid .any s,ak (ak (ct mid .any h) id (.box cs')) mid .dead⟩:=by
 subst hset
 have i0:ce ⟨s,h⟩ ⟨s,ak h mid (.map kk (ik ke (fun v=> .d (fv v)) W))⟩:=lL (fun _=> .inl rfl) fun j=>by
  by_cases hj':j=mid
  ·subst hj';simp only[ak,LX,hj];exact hr
  ·simp only[ak,hj',LI];exact bk rfl
 have i1:=m8 (σ:=⟨s,ak h mid (.map kk (ik ke (fun v=> .d (fv v)) W))⟩) (id:=id) (id':=mid) (p:= .b off) (m:= .mp kk .sh) (d:=Dw ke fv W) (ch:= .map kk (ik ke (fun v=> .d (fv v)) W)) (mk:= .mp) hne
  (CL W) (Fg W) (by simp only[ak,hne,LI,hh,jw,hc]) (by simp only[ak,LX])
 have e1:g_ ⟨s,ak h mid (.map kk (ik ke (fun v=> .d (fv v)) W))⟩ id (.b off) mid (.mp kk .sh) (Dw ke fv W)=⟨ca mid .any s,ak (ak (ct mid .any h) id (.box ((b8 mid .any cs).set off (.own (.mp kk .sh) (Dw ke fv W))))) mid .dead⟩:=by
  simp only[g_,ak,hne,LI,hh,jf,qW]
  congr 1
  funext i
  by_cases hi:i=mid
  ·subst hi;simp only[ak,LX]
  ·by_cases hi2:i=id
   ·subst hi2;simp only[ak,hi,LI,LX]
   ·simp only[ak,hi,hi2,LI,ct]
 rw[e1] at i1
 exact i0.trans i1
theorem DA {R:Type} {r:R} {rows:List (List SV)} {dst e sz id:Nat} {ki:IntKind} {m:Int} {y z:SX} {k:List α->Option R} (hm:(fB l 0 m).bind k=some r) (hx:ev s y= .vec id) (hy:ev s z= .d (.int ki m)) (hh:h id= .vec e sz rows) (hl:rows.length=l.length) (ht:rows.take m.toNat=(aw ms row l).take m.toNat)
  (hk:∀ l',k l'=some r->aA P Kk sos ⟨ak (ca id .any s) dst (.vec id),ak (ct id .any h) id (.vec e sz (aw ms row l'))⟩):aA P Kk (.w dst (.trunc sz y z)::sos) ⟨s,h⟩:=by
 cases hs:fB l 0 m with
 |none=>rw[hs] at hm;cases hm
 |some l'=>
  rw[hs] at hm
  unfold fB at hs
  split at hs
  ·rename_i h0
   simp only[K0] at hs
   have hl':l'=l.take m.toNat:=by rw[<-hs];simp
   refine zg (p:=sz=sz/\0<=m/\m<=rows.length) ?_ ⟨rfl,by omega,by omega⟩ (hk l' hm)
   simp only[wr,hx,hy,hh,cm,St.swap,ht]
   rw[show(aw ms row l).take m.toNat=aw ms row l' by rw[hl'];simp[aw,List.map_take],fC]
  ·cases hs
theorem B1 {R:Type} {r:R} {rows:List (List SV)} {dst e sz id:Nat} {ki:IntKind} {m:Int} {y z:SX} {late:List (Nat×Nat×l_)} {k:List α->Option R} (hm:(fB l 0 m).bind k=some r) (hx:ev s y= .vec id) (hy:ev s z= .d (.int ki m)) (hh:h id= .vec e sz rows) (hl:rows.length=l.length) (ht:rows.take m.toNat=(aw ms row l).take m.toNat)
  (hla:∀ l':List α,l'.length=m.toNat->p7 ⟨ak (ca id .any s) dst (.vec id),ak (ct id .any h) id (.vec e sz (aw ms row l'))⟩ late)
  (hk:∀ l',k l'=some r->aA P Kk sos ⟨ak (ca id .any s) dst (.vec id),ak (ct id .any h) id (.vec e sz (aw ms row l'))⟩):aA P Kk (.x dst (.trunc sz y z) late::sos) ⟨s,h⟩:=by
 cases hs:fB l 0 m with
 |none=>rw[hs] at hm;cases hm
 |some l'=>
  rw[hs] at hm
  unfold fB at hs
  split at hs
  ·rename_i h0
   simp only[K0] at hs
   have hl':l'=l.take m.toNat:=by rw[<-hs];simp
   refine GA (p:=sz=sz/\0<=m/\m<=rows.length) ?_ ⟨rfl,by omega,by omega⟩ (hla l' (by rw[hl',Lb];omega)) (hk l' hm)
   simp only[wr,hx,hy,hh,cm,St.swap,ht]
   rw[show(aw ms row l).take m.toNat=aw ms row l' by rw[hl'];simp[aw,List.map_take],fC]
  ·cases hs
end
end Go.Proofs.YtgmnipfafmphaaaGreatDoor

