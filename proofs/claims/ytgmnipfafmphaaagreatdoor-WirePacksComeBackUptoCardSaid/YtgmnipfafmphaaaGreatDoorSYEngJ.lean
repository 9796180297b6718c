/-
  My text.
-/
import Derived.Test.YtgmnipfafmphaaaGreatDoorSYEngO
namespace Go.Proofs.YtgmnipfafmphaaaGreatDoor
set_option linter.unusedSimpArgs false
set_option linter.unusedVariables false
open Go.RowKit
variable {F2:List Nat} {L:List (Nat×Ch)} {M:Nat->Prop} {W:List Nat} {id:Nat} {ins outs:List SV} {u:Value} {vs:List Value} {w':World} {xs:List SV}
def ac (P:Program) (f:FuncId) (args:List DV) (res:DV):Prop:=
 jW P f=true/\∀ (w:World) (M:Nat->Prop) (vs:List Value),(∀ b,M b->b<w.heap.size)->aC w M args vs->vU w->
  Calls P f vs.toArray w fun e w'=>∃ v,e= .returned v/\aW w' M res v/\Below w.heap.size w w'
def κ0:Nat->Value:=fun _=> .pointer none
def bu (P:Program) (f:FuncId) (args:List SV) (res:SV) (outs:List SV):Prop:=
 jW P f=true/\∀ (w:World) (M:Nat->Prop) (vs:List Value) (F:List Nat),(∀ b,M b->b<w.heap.size/\b∉F)->(∀ b∈F,b<w.heap.size)->F.Nodup->ap w (fun b=>M b\/b∈F) κ0 args vs F->vU w->PM (· ∈F)->
  Calls P f vs.toArray w fun e w'=>∃ v W F2,e= .returned v/\ap w' (fun b=>M b\/b∈W++F2) κ0 outs vs W/\aO w' (fun b=>M b\/b∈W++F2) κ0 res v F2/\(W++F2).Nodup/\
   (∀ b∈W++F2,(b∈F\/w.heap.size<=b)/\b<w'.heap.size)/\CI w.heap.size (· ∈F) w w'
mutual
def SV.closed:SV->Bool
 | .own _ _=>true
 | .agg cs=>SV.closeds cs
 | .tup cs=>SV.closeds cs
 | .d _=>true
 | .nils=>true
 | .lit _ _ cs=>SV.closeds cs
 | .ref _ _=>false
 | .vec _=>false
 | .vref _ _ _ _=>false
 | .mp _=>false
def SV.closeds:List SV->Bool
 |[]=>true
 |c::cs=>SV.closed c&&SV.closeds cs
end
section
variable {w:World} {M:Nat->Prop} {κ N:Nat->Value}
mutual
theorem ai.kappa:∀ (x:SV) (u:Value),x.closed=true->ai w M κ x u->ai w M N x u
 | .own _ _,u,_,h=>by simp only[ai] at h
 | .agg cs,u,hc,h=>by
  simp only[ai] at *
  obtain⟨vs,h1,h2,E⟩:=h
  exact⟨vs,h1,h2,an.kappa cs vs (by simpa[SV.closed] using hc) E⟩
 | .tup cs,u,hc,h=>by
  simp only[ai] at *
  obtain⟨vs,h1,E⟩:=h
  exact⟨vs,h1,an.kappa cs vs (by simpa[SV.closed] using hc) E⟩
 | .d _,u,_,h=>by simp only[ai] at *;exact h
 | .nils,u,_,h=>by simp only[ai] at *;exact h
 | .lit _ _ cs,u,hc,h=>by
  simp only[ai] at *
  obtain⟨b,vs,h1,h2,E,h4,h5,h6,h7⟩:=h
  exact⟨b,vs,h1,h2,E,h4,h5,h6,an.kappa cs vs (by simpa[SV.closed] using hc) h7⟩
 | .ref _ _,u,hc,_=>by simp[SV.closed] at hc
 | .vec _,u,hc,_=>by simp[SV.closed] at hc
 | .vref _ _ _ _,u,hc,_=>by simp[SV.closed] at hc
 | .mp _,u,hc,_=>by simp[SV.closed] at hc
theorem an.kappa:∀ (cs:List SV) (R:List Value),SV.closeds cs=true->an w M κ cs R->an w M N cs R
 |[],R,_,h=>by simp only[an] at *;exact h
 |c::cs,R,hc,h=>by
  simp only[an,SV.closeds,SR] at *
  obtain⟨u,g,h1,h2,E⟩:=h
  exact⟨u,g,h1,ai.kappa c u hc.1 h2,an.kappa cs g hc.2 E⟩
end
end
def SV.lendC (h:Nat->Ch):SV->Option DV
 | .own m v=>if m.plain then some v else none
 | .d v=>some v
 | .nils=>some (.slice [])
 | .lit sz n cs=>SV.toDV (.lit sz n cs)
 | .vec id=>match h id with| .vec _ _ rows=>(match SV.frzR rows with|some J=>some (.slice J)|none=>none)|_=>none
 |_=>none
def SV.lendCs (h:Nat->Ch):List SV->Option (List DV)
 |[]=>some []
 |c::cs=>match SV.lendC h c,SV.lendCs h cs with|some x,some xs=>some (x::xs)|_,_=>none
mutual
def SV.lend (h:Nat->Ch):SV->Option DV
 | .vec id=>match h id with| .vec _ _ rows=>(match SV.frzR rows with|some J=>some (.slice J)|none=>none)|_=>none
 | .agg cs=>match SV.lends h cs with|some xs=>some (.agg xs)|none=>none
 | .d v=>some v
 | .nils=>some (.slice [])
 | .lit sz n cs=>SV.toDV (.lit sz n cs)
 | .tup cs=>SV.toDV (.tup cs)
 | .ref id off=>if off=0 then(match h id with| .box cs=>(match SV.lendCs h cs with|some J=>some (.ptr J)|none=>none)|_=>none) else none
 | .vref _ _ _ _=>none
 | .mp _=>none
 | .own _ _=>none
def SV.lends (h:Nat->Ch):List SV->Option (List DV)
 |[]=>some []
 |c::cs=>match SV.lend h c,SV.lends h cs with|some x,some xs=>some (x::xs)|_,_=>none
end
mutual
def DV.flat:DV->Bool
 | .int _ _=>true
 | .bool _=>true
 | .str _=>true
 | .raw _=>true
 | .err=>true
 | .any=>true
 | .agg cs=>DV.flats cs
 | .tup cs=>DV.flats cs
 | .slice _=>false
 | .ptr _=>false
 | .fn _ _=>false
 | .map _ _=>false
def DV.flats:List DV->Bool
 |[]=>true
 |c::cs=>DV.flat c&&DV.flats cs
end
section
variable {w w':World} {M M':Nat->Prop}
mutual
theorem aW.flat:∀ (d:DV) (v:Value),d.flat=true->aW w M d v->aW w' M' d v
 | .int _ _,v,_,h=>by unfold aW at *;exact h
 | .bool _,v,_,h=>by unfold aW at *;exact h
 | .str _,v,_,h=>by unfold aW at *;exact h
 | .raw _,v,_,h=>by unfold aW at *;exact h
 | .err,v,_,h=>by unfold aW at *;exact h
 | .any,v,_,h=>by unfold aW at *;exact h
 | .agg cs,v,C,h=>by
  unfold aW at *
  obtain⟨vs,h1,h2,E⟩:=h
  exact⟨vs,h1,h2,aC.flat cs vs (by simpa[DV.flat] using C) E⟩
 | .tup cs,v,C,h=>by
  unfold aW at *
  obtain⟨vs,h1,E⟩:=h
  exact⟨vs,h1,aC.flat cs vs (by simpa[DV.flat] using C) E⟩
 | .slice _,v,C,_=>by simp[DV.flat] at C
 | .ptr _,v,C,_=>by simp[DV.flat] at C
 | .fn _ _,v,C,_=>by simp[DV.flat] at C
 | .map _ _,v,C,_=>by simp[DV.flat] at C
theorem aC.flat:∀ (J:List DV) (vs:List Value),DV.flats J=true->aC w M J vs->aC w' M' J vs
 |[],vs,_,h=>by unfold aC at *;exact h
 |d::J,vs,C,h=>by
  unfold aC at *
  obtain⟨u,R,h1,h2,E⟩:=h
  simp only[DV.flats,SR] at C
  exact⟨u,R,h1,aW.flat d u C.1 h2,aC.flat J R C.2 E⟩
end
end
section
variable {c:Cx} {σ:St} {κ:Nat->Value} {φ:Nat->List Nat} {a:Act} {w:World}
theorem K9 (D:cW c σ κ φ a w) {e sz:Nat} {rows:List (List SV)} {J:List (List DV)} (hv:σ.h id= .vec e sz rows) (r6:SV.frzR rows=some J):aW w c.M0 (.slice J) (κ id):=by
 have r0:=D.chunks id
 rw[hv] at r0
 exact DZ (M:=own c φ) (fun b hb=> .inl hb) (fun b hb=>tW D hb) r0 r6
theorem Jp (D:cW c σ κ φ a w) {x:SV} {F:List Nat} {d:DV} (B:∀ b∈F,¬ c.M0 b) (h:aO w (own c φ) κ x u F) (hl:SV.lendC σ.h x=some d):aW w c.M0 d u:=by
 have i:∀ b,c.M0 b->own c φ b:=fun b hb=> .inl hb
 cases x with
 |own m v=>exact nI i B h (by simpa only[SV.lendC,SV.frz] using hl)
 |d v=>exact nI i B h (by simpa only[SV.lendC,SV.frz] using hl)
 |nils=>exact nI i B h (by simpa only[SV.lendC,SV.frz] using hl)
 |lit sz n cs=>exact nI i B h (by simpa only[SV.lendC,SV.frz] using hl)
 |vec id=>
  simp only[SV.lendC] at hl
  split at hl
  ·rename_i e sz rows hv
   split at hl
   ·rename_i J r6
    simp only[SN] at hl;subst hl
    simp only[aO,ai] at h
    rw[h.2]
    exact K9 D hv r6
   ·cases hl
  ·cases hl
 |_=>simp[SV.lendC] at hl
theorem vf (D:cW c σ κ φ a w):∀ {cs:List SV} {R:List Value} {F:List Nat} {J:List DV},(∀ b∈F,¬ c.M0 b)->ap w (own c φ) κ cs R F->SV.lendCs σ.h cs=some J->aC w c.M0 J R
 |[],R,F,J,B,h,hl=>by
  simp only[SV.lendCs,SN] at hl;subst hl
  simp only[ap] at h;unfold aC;exact h.1
 |x::cs,R,F,J,B,h,hl=>by
  simp only[SV.lendCs] at hl
  split at hl
  ·rename_i y ys hy k
   simp only[SN] at hl;subst hl
   simp only[ap] at h
   obtain⟨u,g,W,F2,rfl,rfl,h1,h2⟩:=h
   unfold aC
   exact⟨u,g,rfl,Jp D (fun b hb=>B b (by simp[hb])) h1 hy,vf D (fun b hb=>B b (by simp[hb])) h2 k⟩
  ·cases hl
theorem K_ (D:cW c σ κ φ a w) {cs:List SV} {J:List DV} (hv:σ.h id= .box cs) (hl:SV.lendCs σ.h cs=some J):aW w c.M0 (.ptr J) (κ id):=by
 have r0:=D.chunks id
 rw[hv] at r0
 obtain⟨b,T,vs,G,h1,h2,E,h4,K⟩:=r0
 have hn:∀ b'∈b::G,¬ c.M0 b':=fun b' h6=>tW D (id:=id) (by rw[K];exact h6)
 unfold aW
 exact⟨b,0,h1,hn b oS,(Ts.1 h2).1,bw.of_row h2 (vf D (fun b' h6=>hn b' (by simp[h6])) h4 hl) E oS⟩
mutual
theorem Fs (D:cW c σ κ φ a w):∀ (x:SV) (v:Value) (d:DV),ai w (own c φ) κ x v->SV.lend σ.h x=some d->aW w c.M0 d v
 | .vec id,v,d,h,hl=>by
  simp only[SV.lend] at hl
  split at hl
  ·rename_i e sz rows hv
   split at hl
   ·rename_i J r6
    simp only[SN] at hl;subst hl
    simp only[ai] at h;subst h
    have r0:=D.chunks id
    rw[hv] at r0
    exact DZ (M:=own c φ) (fun b hb=> .inl hb) (fun b hb=>tW D hb) r0 r6
   ·cases hl
  ·cases hl
 | .agg cs,v,d,h,hl=>by
  simp only[SV.lend] at hl
  split at hl
  ·rename_i xs T
   simp only[SN] at hl;subst hl
   simp only[ai] at h
   obtain⟨vs,h1,h2,E⟩:=h
   unfold aW
   exact⟨vs,h1,h2,xw D cs vs xs E T⟩
  ·cases hl
 | .d x,v,d,h,hl=>(ai.toDV (.d x) v d h (by simpa only[SV.lend,SV.toDV] using hl)).ext (jE.shrink fun b hb=> .inl hb)
 | .nils,v,d,h,hl=>(ai.toDV .nils v d h (by simpa only[SV.lend,SV.toDV] using hl)).ext (jE.shrink fun b hb=> .inl hb)
 | .lit sz n cs,v,d,h,hl=>(ai.toDV (.lit sz n cs) v d h (by simpa only[SV.lend] using hl)).ext (jE.shrink fun b hb=> .inl hb)
 | .tup cs,v,d,h,hl=>(ai.toDV (.tup cs) v d h (by simpa only[SV.lend] using hl)).ext (jE.shrink fun b hb=> .inl hb)
 | .ref id off,v,d,h,hl=>by
  simp only[SV.lend] at hl
  split at hl
  ·rename_i h0
   subst h0
   split at hl
   ·rename_i cs hv
    split at hl
    ·rename_i J r6
     simp only[SN] at hl;subst hl
     simp only[ai] at h
     obtain⟨b,hk,rfl⟩:=h
     rw[<-hk]
     exact K_ D hv r6
    ·cases hl
   ·cases hl
  ·cases hl
 | .vref _ _ _ _,v,d,h,hl=>by simp[SV.lend] at hl
 | .mp _,v,d,h,hl=>by simp[SV.lend] at hl
 | .own _ _,v,d,h,hl=>by simp[SV.lend] at hl
theorem xw (D:cW c σ κ φ a w):∀ (cs:List SV) (vs:List Value) (J:List DV),an w (own c φ) κ cs vs->SV.lends σ.h cs=some J->aC w c.M0 J vs
 |[],vs,J,h,hl=>by
  simp only[SV.lends,SN] at hl;subst hl
  simp only[an] at h;unfold aC;exact h
 |x::cs,vs,J,h,hl=>by
  simp only[SV.lends] at hl
  split at hl
  ·rename_i y ys hy k
   simp only[SN] at hl;subst hl
   simp only[an] at h
   obtain⟨u,R,h1,h2,E⟩:=h
   unfold aC
   exact⟨u,R,h1,Fs D x u y h2 hy,xw D cs R ys E k⟩
  ·cases hl
end
end
def iT {α:Type}:List (Nat×α)->(Nat->α)->Nat->α
 |[],f=>f
 |(i,v)::L,f=>am (iT L f) i v
inductive HandL (h:Nat->Ch):List SV->List SV->List SV->List (Nat×Ch)->Prop
 |nil:HandL h [] [] [] []
 |data {x:SV} {d:DV} {xs ins outs:List SV} {L:List (Nat×Ch)} (hx:x.toDV=some d) (hl:HandL h xs ins outs L):HandL h (x::xs) (.d d::ins) (.d d::outs) L
 |nils {e:Nat} {ms:List bj} {xs ins outs:List SV} {L:List (Nat×Ch)} (hl:HandL h xs ins outs L):HandL h (.nils::xs) (.own (.sl e ms) (.slice [])::ins) (.d .any::outs) L
 |move {id:Nat} {m:bj} {d:DV} {ch:Ch} {mk:Nat->SV} {xs ins outs:List SV} {L:List (Nat×Ch)} (ho:cf m d=some (ch,mk)) (hs:eZ m d) (hh:h id=ch) (hn:id∉L.map Prod.fst) (hl:HandL h xs ins outs L):
   HandL h (mk id::xs) (.own m d::ins) (.d .any::outs) ((id,.dead)::L)
 |ptr {id:Nat} {m:bj} {d d':DV} {ch ch':Ch} {mk mk':Nat->SV} {xs ins outs:List SV} {L:List (Nat×Ch)} (ho:cf m d=some (ch,mk)) (hs:eZ m d) (ho':cf m d'=some (ch',mk')) (hh:h id=ch) (hn:id∉L.map Prod.fst) (hl:HandL h xs ins outs L):
   HandL h (mk id::xs) (.own m d::ins) (.own m d'::outs) ((id,ch')::L)
def hw (φ:Nat->List Nat):List (Nat×Ch)->List Nat
 |[]=>[]
 |(id,_)::L=>φ id++hw φ L
theorem b9 {φ:Nat->List Nat} {b:Nat}:∀ {L:List (Nat×Ch)},b∈hw φ L↔∃ id∈L.map Prod.fst,b∈φ id
 |[]=>by simp[hw]
 |(i,ch)::L=>by simp only[hw,Te,b9 (L:=L)];simp
theorem lB {α:Type} {j:Nat} {f:Nat->α}:∀ {L:List (Nat×α)},j∉L.map Prod.fst->iT L f j=f j
 |[],_=>rfl
 |(i,v)::L,h=>by
  simp only[Tc,Tf,not_or] at h
  rw[iT,aY _ _ _ _ h.1,lB h.2]
section
variable {c:Cx} {σ:St} {κ:Nat->Value} {φ:Nat->List Nat} {a:Act} {w:World}
theorem vg (D:cW c σ κ φ a w) (h:HandL σ.h xs ins outs L):(hw φ L).Nodup/\(L.map Prod.fst).Nodup:=by
 have key:∀ (id:Nat) (L:List (Nat×Ch)),id∉L.map Prod.fst->(hw φ L).Nodup/\(L.map Prod.fst).Nodup->∀ ch,(hw φ ((id,ch)::L)).Nodup/\(((id,ch)::L).map Prod.fst).Nodup:=fun id L hn ih ch=>by
  refine⟨TD.2 ⟨D.nod id,ih.1,fun x hx y hy e=> ?_⟩,by simpa using⟨by simpa using hn,ih.2⟩⟩
  subst e
  obtain⟨j,hj,H⟩:=b9.1 hy
  exact D.sep id j x (fun e=>hn (e▸hj)) hx H
 induction h with
 |nil=>simp[hw]
 |data _ _ ih=>exact ih
 |nils _ ih=>exact ih
 |move _ _ _ hn _ ih=>exact key _ _ hn ih _
 |ptr _ _ _ _ hn _ ih=>exact key _ _ hn ih _
theorem La (D:cW c σ κ φ a w) (hM:∀ b,M b->own c φ b) (h:HandL σ.h xs ins outs L):∀ {vs:List Value},an w (own c φ) κ xs vs->ap w M κ0 ins vs (hw φ L):=by
 have Q:jE w (own c φ) w M:=jE.shrink hM
 have key:∀ {id:Nat} {m:bj} {d:DV} {ch:Ch} {mk:Nat->SV} {u:Value},cf m d=some (ch,mk)->eZ m d->σ.h id=ch->ai w (own c φ) κ (mk id) u->aO w M κ0 (.own m d) u (φ id):=fun{id m d ch mk u} ho hs hh hu=>by
  have r0:=D.chunks id
  rw[hh] at r0
  obtain⟨hk,_⟩:=Ed (φ:=φ) ho (aO.of_S _ _ hu) r0
  simp only[aO]
  exact eO.ext Q _ _ _ _ (fun _ _=>rfl) ((og hs ho hk).1 r0)
 induction h with
 |nil=>intro vs hx;simp only[an] at hx;simp[ap,hw,hx]
 |data hx _ ih=>
  intro vs T
  simp only[an] at T
  obtain⟨u,R,rfl,h1,h2⟩:=T
  simp only[ap]
  exact⟨u,R,[],_,rfl,by simp,by unfold aO ai;exact⟨rfl,(ai.toDV _ _ _ h1 hx).ext Q⟩,ih h2⟩
 |nils _ ih=>
  intro vs T
  simp only[an] at T
  obtain⟨u,R,rfl,h1,h2⟩:=T
  simp only[ai] at h1
  simp only[ap]
  refine⟨u,R,[],_,rfl,by simp, ?_,ih h2⟩
  simp only[aO,eO]
  subst h1
  exact⟨[],[],[],rfl,World.ownsRow_nil w 0 _ _,by simp,by simp,by simp[fE],by simp[fz,sc]⟩
 |move ho hs hh _ _ ih=>
  intro vs T
  simp only[an] at T
  obtain⟨u,R,rfl,h1,h2⟩:=T
  simp only[ap]
  exact⟨u,R,_,_,rfl,rfl,key ho hs hh h1,ih h2⟩
 |ptr ho hs _ hh _ _ ih=>
  intro vs T
  simp only[an] at T
  obtain⟨u,R,rfl,h1,h2⟩:=T
  simp only[ap]
  exact⟨u,R,_,_,rfl,rfl,key ho hs hh h1,ih h2⟩
theorem CR (D:cW c σ κ φ a w) (h:HandL σ.h xs ins outs L):∀ {vs:List Value} {F:List Nat},an w (own c φ) κ xs vs->ap w' M κ0 outs vs F->
  ∃ g:List (Nat×List Nat),g.map Prod.fst=L.map Prod.fst/\(∀ b,b∈F↔∃ p∈g,b∈p.2)/\(F.Nodup->(∀ p∈g,p.2.Nodup)/\∀ p∈g,∀ q∈g,∀ b,p.1≠q.1->b∈p.2->b∉q.2)/\
   (∀ j,j∈L.map Prod.fst->jo w' M κ j (iT L σ.h j) (iT g φ j))/\∀ p∈g,iT g φ p.1=p.2:=by
 have key:∀ {id:Nat} {L:List (Nat×Ch)} {ch':Ch} {W F2:List Nat} {g:List (Nat×List Nat)},id∉L.map Prod.fst->jo w' M κ id ch' W->g.map Prod.fst=L.map Prod.fst->(∀ b,b∈F2↔∃ p∈g,b∈p.2)->
   (F2.Nodup->(∀ p∈g,p.2.Nodup)/\∀ p∈g,∀ q∈g,∀ b,p.1≠q.1->b∈p.2->b∉q.2)->(∀ j,j∈L.map Prod.fst->jo w' M κ j (iT L σ.h j) (iT g φ j))->(∀ p∈g,iT g φ p.1=p.2)->
   ∃ i:List (Nat×List Nat),i.map Prod.fst=((id,ch')::L).map Prod.fst/\(∀ b,b∈W++F2↔∃ p∈i,b∈p.2)/\((W++F2).Nodup->(∀ p∈i,p.2.Nodup)/\∀ p∈i,∀ q∈i,∀ b,p.1≠q.1->b∈p.2->b∉q.2)/\
    (∀ j,j∈((id,ch')::L).map Prod.fst->jo w' M κ j (iT ((id,ch')::L) σ.h j) (iT i φ j))/\∀ p∈i,iT i φ p.1=p.2:=fun{id L ch' W F2 g} hn l h1 h2 E h4 h5=>by
  have U:∀ p∈g,p.1≠id:=fun p Y e=>hn (by rw[<-h1,<-e];exact UF Y)
  refine⟨(id,W)::g,by simp[h1],fun b=> ?_,fun z=> ?_,fun j hj=> ?_,fun p Y=> ?_⟩
  ·simp[h2 b]
  ·obtain⟨S,V,t⟩:=TD.1 z
   obtain⟨k1,k2⟩:=E V
   refine⟨fun p Y=> ?_,fun p Y q hq b k hb=> ?_⟩
   ·rcases Tf.1 Y with rfl|Y
    ·exact S
    ·exact k1 p Y
   ·rcases Tf.1 Y with rfl|Y
    ·rcases Tf.1 hq with rfl|hq
     ·exact absurd rfl k
     ·exact fun h6=>t b hb b ((h2 b).2 ⟨q,hq,h6⟩) rfl
    ·rcases Tf.1 hq with rfl|hq
     ·exact fun h6=>t b h6 b ((h2 b).2 ⟨p,Y,hb⟩) rfl
     ·exact k2 p Y q hq b k hb
  ·simp only[iT]
   by_cases f:j=id
   ·subst f;rw[ar,ar];exact l
   ·rw[aY _ _ _ _ f,aY _ _ _ _ f]
    simp only[Tc,Tf,f,false_or] at hj
    exact h4 j hj
  ·simp only[iT]
   rcases Tf.1 Y with rfl|Y
   ·rw[ar]
   ·rw[aY _ _ _ _ (U p Y)];exact h5 p Y
 induction h with
 |nil=>
  intro vs F _ B
  simp only[ap] at B
  exact⟨[],rfl,by simp[B.2],fun _=>by simp,by simp,by simp⟩
 |data hx _ ih=>
  intro vs F T B
  simp only[an] at T
  obtain⟨u,R,rfl,h1,h2⟩:=T
  simp only[ap,TG] at B
  obtain⟨_,_,W,F2,⟨rfl,rfl⟩,rfl,k1,k2⟩:=B
  simp only[aO] at k1
  obtain⟨rfl,_⟩:=k1
  simpa using ih h2 k2
 |nils _ ih=>
  intro vs F T B
  simp only[an] at T
  obtain⟨u,R,rfl,h1,h2⟩:=T
  simp only[ap,TG] at B
  obtain⟨_,_,W,F2,⟨rfl,rfl⟩,rfl,k1,k2⟩:=B
  simp only[aO] at k1
  obtain⟨rfl,_⟩:=k1
  simpa using ih h2 k2
 |move _ _ _ hn _ ih=>
  intro vs F T B
  simp only[an] at T
  obtain⟨u,R,rfl,h1,h2⟩:=T
  simp only[ap,TG] at B
  obtain⟨_,_,W,F2,⟨rfl,rfl⟩,rfl,k1,k2⟩:=B
  simp only[aO] at k1
  obtain⟨rfl,_⟩:=k1
  obtain⟨g,g1,g2,g3,g4,g5⟩:=ih h2 k2
  exact key hn (ch':= .dead) rfl g1 g2 g3 g4 g5
 | @ptr id m d d' ch ch' mk mk' _ _ _ _ ho hs ho' hh hn _ ih=>
  intro vs F T B
  simp only[an] at T
  obtain⟨u,R,rfl,h1,h2⟩:=T
  simp only[ap,TG] at B
  obtain⟨_,_,W,F2,⟨rfl,rfl⟩,rfl,k1,k2⟩:=B
  have r0:=D.chunks id
  rw[hh] at r0
  obtain⟨hk,_⟩:=Ed (φ:=φ) ho (aO.of_S _ _ h1) r0
  simp only[aO] at k1
  obtain⟨g,g1,g2,g3,g4,g5⟩:=ih h2 k2
  exact key hn ((og k1.shape ho' hk).2 k1) g1 g2 g3 g4 g5
theorem cW.called (D:cW c σ κ φ a w) (h:HandL σ.h xs ins outs L) (T:an w (own c φ) κ xs vs) (B:ap w' (fun b=>(own c φ b/\b∉hw φ L)\/b∈W++F2) κ0 outs vs W) (z:(W++F2).Nodup) (n:∀ b∈W++F2,(b∈hw φ L\/w.heap.size<=b)/\b<w'.heap.size) (k:CI w.heap.size (· ∈hw φ L) w w'):
  ∃ h4,cW c ⟨σ.s,iT L σ.h⟩ κ h4 a w'/\(∀ b,own c h4 b->(own c φ b/\b∉hw φ L)\/b∈W++F2)/\∀ id b,b∈F2->b∉h4 id:=by
 obtain⟨S,V,t⟩:=TD.1 z
 obtain⟨g,g1,g2,g3,g4,g5⟩:=CR D h T B
 obtain⟨A,E⟩:=g3 S
 obtain⟨_,r6⟩:=vg D h
 have f:∀ j b,b∈iT g φ j->(j∈L.map Prod.fst/\b∈W/\∃ p∈g,p.1=j/\b∈p.2)\/(j∉L.map Prod.fst/\b∈φ j):=fun j b hb=>by
  by_cases hj:j∈L.map Prod.fst
  ·have r3:=hj
   rw[<-g1] at hj
   obtain⟨p,Y,rfl⟩:=Tp.1 hj
   rw[g5 p Y] at hb
   exact .inl ⟨r3,(g2 b).2 ⟨p,Y,hb⟩,p,Y,rfl,hb⟩
  ·rw[lB (by rw[g1];exact hj)] at hb
   exact .inr ⟨hj,hb⟩
 have d:∀ b,own c (iT g φ) b->(own c φ b/\b∉hw φ L)\/b∈W++F2:=fun b hb=>by
  rcases hb with hb|⟨j,hb⟩
  ·refine .inl ⟨.inl hb,fun C=> ?_⟩
   obtain⟨id,_,hi⟩:=b9.1 C
   exact tW D hi hb
  ·rcases f j b hb with⟨_,h1,_⟩|⟨hj,h1⟩
   ·exact .inr (by simp[h1])
   ·refine .inl ⟨.inr ⟨j,h1⟩,fun C=> ?_⟩
    obtain⟨id,hid,hi⟩:=b9.1 C
    exact D.sep j id b (fun e=>hj (e▸hid)) h1 hi
 have Q:jE w (own c φ) w' (own c (iT g φ)):=⟨k.size,fun b hb Z=>⟨k.block b hb fun C=>by
   obtain⟨id,_,hi⟩:=b9.1 C
   exact Z (.inr ⟨id,hi⟩),fun ho=>by
   rcases d b ho with h|h
   ·exact Z h.1
   ·rcases(n b h).1 with h|h
    ·obtain⟨id,_,hi⟩:=b9.1 h
     exact Z (.inr ⟨id,hi⟩)
    ·omega⟩⟩
 have l:∀ j,j∉L.map Prod.fst->∀ b∈φ j,w'.heap[b]?=w.heap[b]?:=fun j hj b hb=>k.block b (D.mine j b hb).1 fun C=>by
  obtain⟨id,hid,hi⟩:=b9.1 C
  exact D.sep j id b (fun e=>hj (e▸hid)) hb hi
 refine⟨iT g φ,⟨?_,TW D.size k.size,D.m0,D.ntmps,D.defers,D.kok,fun i hi=>ai.ext Q _ _ (D.slots i hi),fun i v hv=>ai.ext Q _ _ (D.ghost i v hv),fun j=> ?_,fun j b hb=> ?_,fun j=> ?_,fun i j b r0 hi hj=> ?_⟩,d,fun id b hb m=> ?_⟩
 ·refine D.chg.trans ⟨k.os,k.tape,k.output,k.size,fun b hb hA=>k.block b (TJ hb D.size) fun C=> ?_⟩
  obtain⟨id,_,hi⟩:=b9.1 C
  rcases(D.mine id b hi).2 with h|h
  ·omega
  ·exact hA h
 ·by_cases hj:j∈L.map Prod.fst
  ·exact(g4 j hj).ext (jE.shrink d) (fun _ _=>rfl)
  ·dsimp only
   rw[lB hj,lB (by rw[g1];exact hj)]
   exact(D.chunks j).ext Q (l j hj)
 ·rcases f j b hb with⟨_,h1,_⟩|⟨hj,h1⟩
  ·have:=n b (by simp[h1])
   refine⟨this.2, ?_⟩
   rcases this.1 with h|h
   ·obtain⟨id,_,hi⟩:=b9.1 h
    exact(D.mine id b hi).2
   ·exact .inl (TW D.size h)
  ·exact⟨TJ (D.mine j b h1).1 k.size,(D.mine j b h1).2⟩
 ·by_cases hj:j∈L.map Prod.fst
  ·rw[<-g1] at hj
   obtain⟨p,Y,rfl⟩:=Tp.1 hj
   rw[g5 p Y];exact A p Y
  ·rw[lB (by rw[g1];exact hj)];exact D.nod j
 ·rcases f i b hi with⟨_,h1,p,Y,rfl,F⟩|⟨h5,h1⟩
  ·rcases f j b hj with⟨_,_,q,hq,rfl,s⟩|⟨r3,h2⟩
   ·exact E p Y q hq b r0 F s
   ·rcases(n b (by simp[h1])).1 with h|h
    ·obtain⟨id,hid,hi⟩:=b9.1 h
     exact D.sep j id b (fun e=>r3 (e▸hid)) h2 hi
    ·have:=(D.mine j b h2).1;omega
  ·rcases f j b hj with⟨_,h2,_⟩|⟨r3,h2⟩
   ·rcases(n b (by simp[h2])).1 with h|h
    ·obtain⟨id,hid,hi⟩:=b9.1 h
     exact D.sep i id b (fun e=>h5 (e▸hid)) h1 hi
    ·have:=(D.mine i b h1).1;omega
   ·exact D.sep i j b r0 h1 h2
 ·rcases f id b m with⟨_,h1,_⟩|⟨r3,h2⟩
  ·exact t b h1 b hb rfl
  ·rcases(n b (by simp[hb])).1 with h|h
   ·obtain⟨i,hid,hi⟩:=b9.1 h
    exact D.sep id i b (fun e=>r3 (e▸hid)) h2 hi
   ·have:=(D.mine id b h2).1;omega
theorem cW.called2 (D:cW c σ κ φ a w) (h:HandL σ.h xs ins outs L) (T:an w (own c φ) κ xs vs) (B:ap w' (fun b=>(own c φ b/\b∉hw φ L)\/b∈W++F2) κ0 outs vs W) (z:(W++F2).Nodup) (n:∀ b∈W++F2,(b∈hw φ L\/w.heap.size<=b)/\b<w'.heap.size) (k:CI w.heap.size (· ∈hw φ L) w w') {dst:Nat} {ch:Ch} (h9:u.oneCell'=true) (o:jo w' (fun b=>(own c φ b/\b∉hw φ L)\/b∈W++F2) (am κ dst u) dst ch F2):
  ∃ h4,cW c ⟨bl dst .any σ.s,am (bG dst .any (iT L σ.h)) dst ch⟩ (am κ dst u) h4 a w'/\(∀ b,own c h4 b->(own c φ b/\b∉hw φ L)\/b∈W++F2):=by
 obtain⟨S,V,t⟩:=TD.1 z
 obtain⟨g,g1,g2,g3,g4,g5⟩:=CR D h T B
 obtain⟨A,E⟩:=g3 S
 obtain⟨_,r6⟩:=vg D h
 have f:∀ j b,b∈iT g φ j->(j∈L.map Prod.fst/\b∈W/\∃ p∈g,p.1=j/\b∈p.2)\/(j∉L.map Prod.fst/\b∈φ j):=fun j b hb=>by
  by_cases hj:j∈L.map Prod.fst
  ·have r3:=hj
   rw[<-g1] at hj
   obtain⟨p,Y,rfl⟩:=Tp.1 hj
   rw[g5 p Y] at hb
   exact .inl ⟨r3,(g2 b).2 ⟨p,Y,hb⟩,p,Y,rfl,hb⟩
  ·rw[lB (by rw[g1];exact hj)] at hb
   exact .inr ⟨hj,hb⟩
 have y:∀ b,own c (iT g φ) b->(own c φ b/\b∉hw φ L)\/b∈W++F2:=fun b hb=>by
  rcases hb with hb|⟨j,hb⟩
  ·refine .inl ⟨.inl hb,fun C=> ?_⟩
   obtain⟨id,_,hi⟩:=b9.1 C
   exact tW D hi hb
  ·rcases f j b hb with⟨_,h1,_⟩|⟨hj,h1⟩
   ·exact .inr (by simp[h1])
   ·refine .inl ⟨.inr ⟨j,h1⟩,fun C=> ?_⟩
    obtain⟨id,hid,hi⟩:=b9.1 C
    exact D.sep j id b (fun e=>hj (e▸hid)) h1 hi
 have U:∀ j b,b∈am (iT g φ) dst F2 j->(j=dst/\b∈F2)\/(j≠dst/\b∈iT g φ j):=fun j b hb=>by
  by_cases hj:j=dst
  ·subst hj;rw[ar] at hb;exact .inl ⟨rfl,hb⟩
  ·rw[aY _ _ _ _ hj] at hb;exact .inr ⟨hj,hb⟩
 have d:∀ b,own c (am (iT g φ) dst F2) b->(own c φ b/\b∉hw φ L)\/b∈W++F2:=fun b hb=>by
  rcases hb with hb|⟨j,hb⟩
  ·exact y b (.inl hb)
  ·rcases U j b hb with⟨_,h1⟩|⟨_,h1⟩
   ·exact .inr (by simp[h1])
   ·exact y b (.inr ⟨j,h1⟩)
 have Q:jE w (own c φ) w' (own c (am (iT g φ) dst F2)):=⟨k.size,fun b hb Z=>⟨k.block b hb fun C=>by
   obtain⟨id,_,hi⟩:=b9.1 C
   exact Z (.inr ⟨id,hi⟩),fun ho=>by
   rcases d b ho with h|h
   ·exact Z h.1
   ·rcases(n b h).1 with h|h
    ·obtain⟨id,_,hi⟩:=b9.1 h
     exact Z (.inr ⟨id,hi⟩)
    ·omega⟩⟩
 have l:∀ j,j∉L.map Prod.fst->∀ b∈φ j,w'.heap[b]?=w.heap[b]?:=fun j hj b hb=>k.block b (D.mine j b hb).1 fun C=>by
  obtain⟨id,hid,hi⟩:=b9.1 C
  exact D.sep j id b (fun e=>hj (e▸hid)) hb hi
 have x:∀ (w:World) (M:Nat->Prop) (v:Value),aW w M .any v:=fun w M v=>by unfold aW;trivial
 have G:∀ j b,b∈F2->b∈iT g φ j->False:=fun j b hb r=>by
  rcases f j b r with⟨_,h1,_⟩|⟨r3,h2⟩
  ·exact t b h1 b hb rfl
  ·rcases(n b (by simp[hb])).1 with h|h
   ·obtain⟨i,hid,hi⟩:=b9.1 h
    exact D.sep j i b (fun e=>r3 (e▸hid)) h2 hi
   ·have:=(D.mine j b h2).1;omega
 refine⟨am (iT g φ) dst F2,⟨?_,TW D.size k.size,D.m0,D.ntmps,D.defers,fun j=> ?_,fun i hi=>gJ Q (x _ _ _) _ _ (D.slots i hi),fun i v hv=>gJ Q (x _ _ _) _ _ (D.ghost i v hv),fun j=> ?_,fun j b hb=> ?_,fun j=> ?_,fun i j b r0 hi hj=> ?_⟩,d⟩
 ·refine D.chg.trans ⟨k.os,k.tape,k.output,k.size,fun b hb hA=>k.block b (TJ hb D.size) fun C=> ?_⟩
  obtain⟨id,_,hi⟩:=b9.1 C
  rcases(D.mine id b hi).2 with h|h
  ·omega
  ·exact hA h
 ·by_cases hj:j=dst
  ·subst hj;rw[ar];exact h9
  ·rw[aY _ _ _ _ hj];exact D.kok j
 ·dsimp only
  by_cases m:j=dst
  ·subst m
   rw[ar,ar]
   exact o.ext (jE.shrink d) (fun _ _=>rfl)
  ·rw[aY _ _ _ _ m,aY _ _ _ _ m]
   by_cases hj:j∈L.map Prod.fst
   ·exact wg (jE.shrink d) (x _ _ _) m (fun _ _=>rfl) (g4 j hj)
   ·have:=wg (v:=u) Q (x _ _ (κ dst)) m (l j hj) (D.chunks j)
    rw[lB (by rw[g1];exact hj)]
    simp only[bG]
    rw[lB hj]
    exact this
 ·rcases U j b hb with⟨_,h1⟩|⟨_,hb⟩
  ·have:=n b (by simp[h1])
   refine⟨this.2, ?_⟩
   rcases this.1 with h|h
   ·obtain⟨id,_,hi⟩:=b9.1 h
    exact(D.mine id b hi).2
   ·exact .inl (TW D.size h)
  ·rcases f j b hb with⟨_,h1,_⟩|⟨hj,h1⟩
   ·have:=n b (by simp[h1])
    refine⟨this.2, ?_⟩
    rcases this.1 with h|h
    ·obtain⟨id,_,hi⟩:=b9.1 h
     exact(D.mine id b hi).2
    ·exact .inl (TW D.size h)
   ·exact⟨TJ (D.mine j b h1).1 k.size,(D.mine j b h1).2⟩
 ·by_cases m:j=dst
  ·subst m;rw[ar];exact V
  ·rw[aY _ _ _ _ m]
   by_cases hj:j∈L.map Prod.fst
   ·rw[<-g1] at hj
    obtain⟨p,Y,rfl⟩:=Tp.1 hj
    rw[g5 p Y];exact A p Y
   ·rw[lB (by rw[g1];exact hj)];exact D.nod j
 ·rcases U i b hi with⟨H,r9⟩|⟨_,hi⟩
  ·rcases U j b hj with⟨J,r4⟩|⟨_,hj⟩
   ·exact r0 (H.trans J.symm)
   ·exact G j b r9 hj
  ·rcases U j b hj with⟨J,r4⟩|⟨_,hj⟩
   ·exact G i b r4 hi
   ·rcases f i b hi with⟨_,h1,p,Y,rfl,F⟩|⟨h5,h1⟩
    ·rcases f j b hj with⟨_,_,q,hq,rfl,s⟩|⟨r3,h2⟩
     ·exact E p Y q hq b r0 F s
     ·rcases(n b (by simp[h1])).1 with h|h
      ·obtain⟨id,hid,hi⟩:=b9.1 h
       exact D.sep j id b (fun e=>r3 (e▸hid)) h2 hi
      ·have:=(D.mine j b h2).1;omega
    ·rcases f j b hj with⟨_,h2,_⟩|⟨r3,h2⟩
     ·rcases(n b (by simp[h2])).1 with h|h
      ·obtain⟨id,hid,hi⟩:=b9.1 h
       exact D.sep i id b (fun e=>h5 (e▸hid)) h1 hi
      ·have:=(D.mine i b h1).1;omega
     ·exact D.sep i j b r0 h1 h2
end
end Go.Proofs.YtgmnipfafmphaaaGreatDoor

