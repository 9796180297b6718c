/-
  My text.
-/
import Derived.Test.YteaolfcegaidpaaGreatDoorSYEngRt
namespace Go.Proofs.YteaolfcegaidpaaGreatDoor
set_option linter.unusedSimpArgs false
set_option linter.unusedVariables false
open Go.RowKit
section
variable {V:Type} {ve:V->SV} {ki:IntKind}
end
section
variable {P:Program} {s:Nat->SV} {h:Nat->Ch} {K:St->Prop} {sos:List SO} {α:Type} {row:α->List DV}
end
def MO (P:Program) (site N:Nat) (args:List SX) (t f nc:Nat) (x:SC) (K:AX->St->Prop) (σ:St):Prop:=∃ ids,σ.s t= .clo f ids/\ids.length=nc/\∃ σ2,dB (wO (sw 100000 site) (JB N (args.map (ev σ.s)++ids.map (fun i=> .ref i 0)) σ)) σ2/\AW P x K σ2
theorem BI {w:World} {M:Nat->Prop} {κ:Nat->Value}:∀ {xs:List SV} {vs:List Value} {ids:List Nat},ai w M κ xs vs->(∀ i∈ids,∃ b,κ i= .pointer (some ⟨b,0,none⟩))->ai w M κ (xs++ids.map (fun i=> .ref i 0)) (vs++ids.map κ)
 |[],vs,[],h,_=>by unfold ai at h;subst h;simp only[PU,OY];unfold ai;rfl
 |[],vs,i::ids,h,hb=>by
  unfold ai at h;subst h
  simp only[OR,OQ]
  unfold ai
  obtain⟨b,hk⟩:=hb i (O9 ..)
  exact⟨κ i,ids.map κ,rfl,by unfold ae;exact⟨b,hk,hk⟩,BI (xs:=[]) (vs:=[]) (by unfold ai;rfl) fun j hj=>hb j (Pk _ hj)⟩
 |x::xs,vs,ids,h,hb=>by
  unfold ai at h
  obtain⟨u,us,rfl,h1,h2⟩:=h
  simp only[OM]
  unfold ai
  exact⟨u,us++ids.map κ,rfl,h1,BI h2 hb⟩
section
variable {P:Program} {c:Cx} {σ:St} {κ:Nat->Value} {φ:Nat->List Nat} {a:Act} {w:World}
theorem MP {Q:AX->St->Prop} {k N f nc t:Nat} {sos:List SO} {x:SC} {qs:List RV} {dst:Option Nat} {args:List SX} (hk:sos[k]?=some (.p dst (.t t) args))
  {site:Nat} (hsite:100000<=site) (hw:bh P (MO P site N args t f nc x (MG P site N dst qs (sos.drop (k+1)) (Q .normal))) (sos.take k) σ):AW P (.inlC f nc k sos N x qs) Q σ:=fun hmix c code R hm hp κ φ a w hr=>by
 obtain⟨id,ops,rfl,hm⟩:∃ id ops,code= .region id ops false/\c7 P c.N (.inlC f nc k sos N x qs) (.region id ops false)=true:=by
  cases code with
  |region id ops draw=>cases draw with
   |false=>exact⟨id,ops,rfl,hm⟩
   |true=>simp[c7] at hm
  |_=>simp[c7] at hm
 simp only[c7,hk,Oz] at hm
 obtain⟨hm1,hcal,hm2⟩:=hm
 cases hf:P.funcs[f]? with
 |none=>simp[hf] at hm2
 |some fn=>
  simp only[hf,Oz,OC] at hm2
  obtain⟨⟨⟨hN,hlen⟩,hres⟩,hbody⟩:=hm2
  cases hb:fn.body with
  |none=>simp[hb] at hbody
  |some bc=>
   simp only[hb] at hbody
   obtain⟨l1,o,l2,hops,hl1,k1,k2,k3⟩:=uJ hm1 hk
   refine wp_region ?_
   have hsize:ops.size=l1.length+(1+l2.length):=by rw[<-Qw,hops];simp;omega
   rw[hsize,Qr,<-List.range'_append_1,<-List.range'_append_1]
   have hgo:ops[l1.length]?=some o:=by rw[<-P3,hops];simp
   refine Ad ?_ _ l1 0 σ κ φ a w (fun j o' hj=> ?_) k1 hr hw
   ·rintro σ1 κ1 φ1 a1 w1 hr1 ⟨ids,hids,hnc,σ2,himp,hbw⟩
    simp only[Ps,List.range'_one,List.singleton_append,wpOps,hgo]
    simp only[lz,Oz,OI,eG] at k2
    obtain⟨hg,⟨⟨hdst,hdN⟩,hcall⟩⟩:=k2
    have hwant:Region.wanted o (yielded ops a1.tmps)=true:=by simp[Region.wanted,hg]
    rw[hwant,Qa rfl]
    refine .inl ?_
    obtain⟨od,oop,oty,opos,oaft,ogd⟩:=o
    simp only at hdst hcall hg
    split at hcall
    ·rename_i xo as ts
     simp only[Oz] at hcall
     have hX:=ag hr1 hcall.1
     have hA:=jd hr1 hcall.2
     simp only[ev,hids,ae] at hX
     obtain⟨hX,hbx⟩:=hX
     have hrun:=ze (P:=P) (w:=w1) (a:=a1) (args:=as) (ts:=ts) (caps:=ids.map κ1) hX hcal od oty opos oaft ogd
     unfold Oper.wp
     rw[hrun,Oper.upon_enter]
     refine calls_of_wp hf hb ?_
     have hAl:=hA.length
     have hen:=hr1.enter (BI hA hbx) N (by rw[OD,hAl,Px,Px,hnc];exact hlen)
     obtain⟨κ2,φ2,hr2⟩:=((Jz hsite).trans himp) _ _ _ _ _ hen
     have fin:∀ σ3 κ3 φ3 a3 w3,cE (JA c a1 N) σ3 κ3 φ3 a3 w3->(∃ σ',dB σ3 σ'/\∃ xs,FQ σ' qs=some xs/\∃ σ2,dB (wO (sw 100000 site) (BC N dst (lN xs) σ')) σ2/\bh P (Q .normal) (sos.drop (k+1)) σ2)->
       a3.defers=[]/\∃ v,(results fn a3.tmps).run P w3= .ok v w3/\wpOps P ops R (List.range' (l1.length+1) l2.length) (a1.put od v) w3:=by
      rintro σ3 κ3 φ3 a3 w3 hr3 ⟨σ',hi,xs,hsv,σ4,hi4,hpost⟩
      obtain⟨κ4,φ4,hr4⟩:=hi _ _ _ _ _ hr3
      obtain⟨us,hus,hxs⟩:=Gw hr4 hres hsv
      refine⟨hr3.defers,_,Af hus, ?_⟩
      have hback:=hr4.leave hr1.ntmps hr1.defers
      have hput:cE c (BC N dst (lN xs) σ') κ4 φ4 (a1.put od (if h:us.toArray.size=1 then us.toArray[0] else .tuple us.toArray)) w3:=by
       subst hdst
       cases od with
       |none=>exact hback
       |some d=>
        have hd:d<c.N:=by simpa using hdN
        exact hback.putS hd (HZ hxs)
      obtain⟨κ5,φ5,hr5⟩:=((Jz hsite).trans hi4) _ _ _ _ _ hput
      exact wj (K:=Q .normal) (fun σ' κ' φ' a' w' hr' hk=>hp.1 _ _ _ _ _ hr' hk) _ l2 (l1.length+1) σ4 κ5 φ5 _ w3 (fun j o' hj=>by
       rw[<-P3,hops,Pe oM]
       rw[show l1.length+1+j - l1.length=j+1 by omega]
       simpa using hj) k3 hr5 hpost
     have hNf:(JA c a1 N).N=N:=rfl
     have htm:({tmps:=(as.toList.map a1.eval++ids.map κ1).toArray++Array.replicate (fn.ntmps - (as.toList.map a1.eval++ids.map κ1).toArray.size) undef,defers:=[]}:Act)={tmps:=(as.toList.map a1.eval++ids.map κ1).toArray++Array.replicate (N - (as.toList.map a1.eval++ids.map κ1).toArray.size) undef,defers:=[]}:=by
      rw[hN]
     rw[htm]
     exact hbw hmix (JA c a1 N) bc _ (by rw[hNf];exact hbody) ⟨fun σ κ φ a w' hr' hq=>fin σ κ φ a w' hr' hq,fun i σ κ φ a w' hr' hq=>hq.elim,fun σ κ φ a w' hr' hq=>fin σ κ φ a w' hr' hq⟩ _ _ _ _ hr2
    ·cases hcall
   ·rw[Ps,<-P3,hops,Py (OG.1 hj).1];exact hj
theorem uK {site N:Nat} {args:List SX} {t f nc:Nat} {x:SC} {K:AX->St->Prop} {M:St} {ids:List Nat} (ht:σ.s t= .clo f ids) (hn:ids.length=nc) (hi:dB (wO (sw 100000 site) (JB N (args.map (ev σ.s)++ids.map (fun i=> .ref i 0)) σ)) M) (hw:AW P x K M):MO P site N args t f nc x K σ:=⟨ids,ht,hn,M,hi,hw⟩
theorem BJ {C S R:Type} {r:R} {Q:R->AX->St->Prop} {X:SC} {k N f nc t:Nat} {sos pre post:List SO} {x:SC} {qs:List RV} {dst:Option Nat} {args:List SX} (site:Nat) (hX:X= .inlC f nc k sos N x qs) (mk:C->S->St) {c:C} {a:Option (S⊕R)} {kk:S->Option R} (hm:a.bind (bX kk)=some r)
  (hk:sos[k]?=some (.p dst (.t t) args)) (hpre:sos.take k=pre) (hpost:sos.drop (k+1)=post) (hsite:100000<=site)
  (hw:∀ o,a=some o->bh P (MO P site N args t f nc x (MG P site N dst qs post (yq (mk c) Q o .normal))) pre σ) (hq:∀ r,tv (Q r)) (hkk:∀ s,kk s=some r->Q r .normal (mk c s)):AW P X (Q r) σ:=by
 subst hX hpre hpost
 exact JW mk hm (fun o ho=>MP hk hsite (hw o ho)) hq hkk
end
theorem o5 {P:Program} {σ:St} {C S R:Type} {r:R} {Q:R->AX->St->Prop} {X x y:SC} {t:SX} (hX:X= .cond t x y) (mk:C->S->St) {c:C} {a:Option (S⊕R)} {kk:S->Option R} (hm:a.bind (bX kk)=some r)
  (hw:∀ o,a=some o->AW P (.cond t x y) (yq (mk c) Q o) σ) (hq:∀ r,tv (Q r)) (hkk:∀ s,kk s=some r->Q r .normal (mk c s)):AW P X (Q r) σ:=by
 subst hX;exact JW mk hm hw hq hkk
theorem Mg {P:Program} {s:Nat->SV} {h:Nat->Ch} {Q:AX->St->Prop} {X:SC} {slot id e sz:Nat} {α:Type} {row:α->List DV} (hs:s slot= .nils) (hk:AW P X Q ⟨aH (gn id .any s) slot (.vec id),aH (lv id .any h) id (.vec e sz (bF row []))⟩):AW P X Q ⟨s,h⟩:=C6 (tk (σ:=⟨s,h⟩) hs) hk
