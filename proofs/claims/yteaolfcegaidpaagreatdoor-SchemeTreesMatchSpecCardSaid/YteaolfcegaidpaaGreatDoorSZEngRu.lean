/-
  My text.
-/
import Derived.Test.YteaolfcegaidpaaGreatDoorSZEngRt
namespace Go.Proofs.YteaolfcegaidpaaGreatDoor
set_option linter.unusedSimpArgs false
set_option linter.unusedVariables false
open Go.RowKit
variable {C:Type} {N:Nat} {P:Program} {R S:Type} {X:SC} {args:List SX} {b:Nat} {dst:Option Nat} {f k nc:Nat} {qs:List RV} {sos:List SO} {t:Nat} {x:SC} {Q:R->AX->St->Prop} {kk:S->Option R} {r:R}
def Qm (P:Program) (b N:Nat) (args:List SX) (t f nc:Nat) (x:SC) (K:AX->St->Prop) (σ:St):Prop:=∃ ids,σ.s t= .clo f ids/\ids.length=nc/\∃ h4,cS (wX (sw 100000 b) (Mz N (args.map (ev σ.s)++ids.map (fun i=> .ref i 0)) σ)) h4/\AW P x K h4
theorem DI {w:World} {M:Nat->Prop} {κ:Nat->Value}:∀ {xs:List SV} {vs:List Value} {ids:List Nat},an w M κ xs vs->(∀ i∈ids,∃ b,κ i= .pointer (some ⟨b,0,none⟩))->an w M κ (xs++ids.map (fun i=> .ref i 0)) (vs++ids.map κ)
 |[],vs,[],h,_=>by unfold an at h;subst h;simp only[Ui,Tg];unfold an;rfl
 |[],vs,i::ids,h,hb=>by
  unfold an at h;subst h
  simp only[Tb,S5]
  unfold an
  obtain⟨b,hk⟩:=hb i (Tl ..)
  exact⟨κ i,ids.map κ,rfl,by unfold ah;exact⟨b,hk,hk⟩,DI (xs:=[]) (vs:=[]) (by unfold an;rfl) fun j hj=>hb j (Tz _ hj)⟩
 |x::xs,vs,ids,h,hb=>by
  unfold an at h
  obtain⟨u,us,rfl,h1,h2⟩:=h
  simp only[S_]
  unfold an
  exact⟨u,us++ids.map κ,rfl,h1,DI h2 hb⟩
section
variable {P:Program} {c:Cx} {σ:St} {κ:Nat->Value} {φ:Nat->List Nat} {a:Act} {w:World}
theorem Qn {Q:AX->St->Prop} (hk:sos[k]?=some (.p dst (.t t) args)) (y:100000<=b) (G:a6 P (Qm P b N args t f nc x (Qe P b N dst qs (sos.drop (k+1)) (Q .normal))) (sos.take k) σ):AW P (.inlC f nc k sos N x qs) Q σ:=fun D c g R Z hp κ φ a w hr=>by
 obtain⟨id,ops,rfl,Z⟩:∃ id ops,g= .region id ops false/\cT P c.N (.inlC f nc k sos N x qs) (.region id ops false)=true:=by
  cases g with
  |region id ops n=>cases n with
   |false=>exact⟨id,ops,rfl,Z⟩
   |true=>simp[cT] at Z
  |_=>simp[cT] at Z
 simp only[cT,hk,SR] at Z
 obtain⟨U,h9,h0⟩:=Z
 cases hf:P.funcs[f]? with
 |none=>simp[hf] at h0
 |some fn=>
  simp only[hf,SR,SU] at h0
  obtain⟨⟨⟨S,h8⟩,h3⟩,u⟩:=h0
  cases hb:fn.body with
  |none=>simp[hb] at u
  |some bc=>
   simp only[hb] at u
   obtain⟨Y,o,l2,C,z,k1,k2,k3⟩:=wY U hk
   refine wp_region ?_
   have e:ops.size=Y.length+(1+l2.length):=by rw[<-U3,C];simp;omega
   rw[e,UX,<-List.range'_append_1,<-List.range'_append_1]
   have I:ops[Y.length]?=some o:=by rw[<-Uv,C];simp
   refine B9 ?_ _ Y 0 σ κ φ a w (fun j o' hj=> ?_) k1 hr G
   ·rintro h5 r6 r3 M w1 O ⟨ids,r4,r8,h4,r2,w8⟩
    simp only[TJ,List.range'_one,List.singleton_append,wpOps,I]
    simp only[l6,SR,S1,eD] at k2
    obtain⟨hg,⟨⟨h2,s6⟩,l⟩⟩:=k2
    have h1:Region.wanted o (yielded ops M.tmps)=true:=by simp[Region.wanted,hg]
    rw[h1,Ub rfl]
    refine .inl ?_
    obtain⟨od,v7,s7,r7,r9,s8⟩:=o
    simp only at h2 l hg
    split at l
    ·rename_i A as ts
     simp only[SR] at l
     have hX:=am O l.1
     have E:=jq O l.2
     simp only[ev,r4,ah] at hX
     obtain⟨hX,h7⟩:=hX
     have F:=A_ (P:=P) (w:=w1) (a:=M) (args:=as) (ts:=ts) (caps:=ids.map r6) hX h9 od s7 r7 r9 s8
     unfold Oper.wp
     rw[F,Oper.upon_enter]
     refine calls_of_wp hf hb ?_
     have u0:=E.length
     have u1:=O.enter (DI E h7) N (by rw[SW,u0,TO,TO,r8];exact h8)
     obtain⟨u4,s9,s2⟩:=((Mx y).trans r2) _ _ _ _ _ u1
     have B:∀ r0 s4 s5 a3 p,cH (My c M N) r0 s4 s5 a3 p->(∃ X,cS r0 X/\∃ xs,Hg X qs=some xs/\∃ h4,cS (wX (sw 100000 b) (DD N dst (mj xs) X)) h4/\a6 P (Q .normal) (sos.drop (k+1)) h4)->
       a3.defers=[]/\∃ v,(results fn a3.tmps).run P p= .ok v p/\wpOps P ops R (List.range' (Y.length+1) l2.length) (M.put od v) p:=by
      rintro r0 s4 s5 a3 p r5 ⟨X,hi,xs,s3,u2,u3,J⟩
      obtain⟨u5,u6,s0⟩:=hi _ _ _ _ _ r5
      obtain⟨us,s1,T⟩:=Jg s0 h3 s3
      refine⟨r5.defers,_,Ca s1, ?_⟩
      have r:=s0.leave O.ntmps O.defers
      have m:cH c (DD N dst (mj xs) X) u5 u6 (M.put od (if h:us.toArray.size=1 then us.toArray[0] else .tuple us.toArray)) p:=by
       subst h2
       cases od with
       |none=>exact r
       |some d=>
        have hd:d<c.N:=by simpa using s6
        exact r.putS hd (K4 T)
      obtain⟨u7,u8,v2⟩:=((Mx y).trans u3) _ _ _ _ _ m
      exact yo (K:=Q .normal) (fun X W h6 a' w' r1 hk=>hp.1 _ _ _ _ _ r1 hk) _ l2 (Y.length+1) u2 u7 u8 _ p (fun j o' hj=>by
       rw[<-Uv,C,TK oM]
       rw[show Y.length+1+j - Y.length=j+1 by omega]
       simpa using hj) k3 v2 J
     have u9:(My c M N).N=N:=rfl
     have v0:({tmps:=(as.toList.map M.eval++ids.map r6).toArray++Array.replicate (fn.ntmps - (as.toList.map M.eval++ids.map r6).toArray.size) undef,defers:=[]}:Act)={tmps:=(as.toList.map M.eval++ids.map r6).toArray++Array.replicate (N - (as.toList.map M.eval++ids.map r6).toArray.size) undef,defers:=[]}:=by
      rw[S]
     rw[v0]
     exact w8 D (My c M N) bc _ (by rw[u9];exact u) ⟨fun σ κ φ a w' r1 hq=>B σ κ φ a w' r1 hq,fun i σ κ φ a w' r1 hq=>hq.elim,fun σ κ φ a w' r1 hq=>B σ κ φ a w' r1 hq⟩ _ _ _ _ s2
    ·cases l
   ·rw[TJ,<-Uv,C,TZ (SY.1 hj).1];exact hj
theorem w_ {K:AX->St->Prop} {M:St} {ids:List Nat} (Y:σ.s t= .clo f ids) (hn:ids.length=nc) (hi:cS (wX (sw 100000 b) (Mz N (args.map (ev σ.s)++ids.map (fun i=> .ref i 0)) σ)) M) (G:AW P x K M):Qm P b N args t f nc x K σ:=⟨ids,Y,hn,M,hi,G⟩
theorem DJ {pre post:List SO} (b:Nat) (hX:X= .inlC f nc k sos N x qs) (mk:C->S->St) {c:C} {a:Option (S⊕R)} (Z:a.bind (bX kk)=some r) (hk:sos[k]?=some (.p dst (.t t) args)) (d:sos.take k=pre) (J:sos.drop (k+1)=post) (y:100000<=b) (G:∀ o,a=some o->a6 P (Qm P b N args t f nc x (Qe P b N dst qs post (Aa (mk c) Q o .normal))) pre σ) (hq:∀ r,vr (Q r)) (i:∀ s,kk s=some r->Q r .normal (mk c s)):AW P X (Q r) σ:=by
 subst hX d J
 exact MS mk Z (fun o ho=>Qn hk y (G o ho)) hq i
end
theorem pC {σ:St} {y:SC} {t:SX} (hX:X= .cond t x y) (mk:C->S->St) {c:C} {a:Option (S⊕R)} (Z:a.bind (bX kk)=some r) (G:∀ o,a=some o->AW P (.cond t x y) (Aa (mk c) Q o) σ) (hq:∀ r,vr (Q r)) (i:∀ s,kk s=some r->Q r .normal (mk c s)):AW P X (Q r) σ:=by
 subst hX;exact MS mk Z G hq i
theorem PL {s:Nat->SV} {h:Nat->Ch} {Q:AX->St->Prop} {id e sz:Nat} {α:Type} {H:α->List DV} (hs:s t= .nils) (hk:AW P X Q ⟨aD (eC id .any s) t (.vec id),aD (hT id .any h) id (.vec e sz (bG H []))⟩):AW P X Q ⟨s,h⟩:=Ft (mL (σ:=⟨s,h⟩) hs) hk
