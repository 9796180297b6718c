/-
  My text.
-/
import Derived.Test.YtgmnipfafmphaaaGreatDoorSXEngO
namespace Go.Proofs.YtgmnipfafmphaaaGreatDoor
set_option linter.unusedVariables false
open Go.RowKit
variable {L:List (Nat×Ch)} {M:Nat->Prop} {N R:List Nat} {id:Nat} {ins outs:List SV} {u:Value} {vs:List Value} {w':World} {xs:List SV}
def ac (P:Program) (f:FuncId) (args:List DV) (res:DV):Prop:=
 mV P f=true/\∀ (w:World) (M:Nat->Prop) (vs:List Value),(∀ b,M b->b<w.heap.size)->aM w M args vs->z6 w->
  Calls P f vs.toArray w fun e w'=>∃ v,e= .returned v/\bf w' M res v/\Below w.heap.size w w'
def κ0:Nat->Value:=fun _=> .pointer none
def bw (P:Program) (f:FuncId) (args:List SV) (res:SV) (outs:List SV):Prop:=
 mV P f=true/\∀ (w:World) (M:Nat->Prop) (vs:List Value) (F:List Nat),(∀ b,M b->b<w.heap.size/\b∉F)->(∀ b∈F,b<w.heap.size)->F.Nodup->az w (fun b=>M b\/b∈F) κ0 args vs F->z6 w->Rz (· ∈F)->
  Calls P f vs.toArray w fun e w'=>∃ v N R,e= .returned v/\az w' (fun b=>M b\/b∈N++R) κ0 outs vs N/\aT w' (fun b=>M b\/b∈N++R) κ0 res v R/\(N++R).Nodup/\
   (∀ b∈N++R,(b∈F\/w.heap.size<=b)/\b<w'.heap.size)/\Fa w.heap.size (· ∈F) w w'
mutual
def SV.closed:SV->Bool
 | .own _ _=>true
 | .agg cs=>SV.closeds cs
 | .tup cs=>SV.closeds cs
 | .d _=>true
 | .nils=>true
 | .lit _ _ cs=>SV.closeds cs
 | .ref _ _=>false
 | .vec _=>false
 | .vref _ _ _ _=>false
 | .mp _=>false
def SV.closeds:List SV->Bool
 |[]=>true
 |c::cs=>SV.closed c&&SV.closeds cs
end
section
variable {w:World} {M:Nat->Prop} {κ W:Nat->Value}
mutual
theorem al.kappa:∀ (x:SV) (u:Value),x.closed=true->al w M κ x u->al w M W x u
 | .own _ _,u,_,h=>by simp only[al] at h
 | .agg cs,u,hc,h=>by
  simp only[al] at *
  obtain⟨vs,h1,h2,E⟩:=h
  exact⟨vs,h1,h2,av.kappa cs vs (by simpa[SV.closed] using hc) E⟩
 | .tup cs,u,hc,h=>by
  simp only[al] at *
  obtain⟨vs,h1,E⟩:=h
  exact⟨vs,h1,av.kappa cs vs (by simpa[SV.closed] using hc) E⟩
 | .d _,u,_,h=>by simp only[al] at *;exact h
 | .nils,u,_,h=>by simp only[al] at *;exact h
 | .lit _ _ cs,u,hc,h=>by
  simp only[al] at *
  obtain⟨b,vs,h1,h2,E,h4,h5,h6,h7⟩:=h
  exact⟨b,vs,h1,h2,E,h4,h5,h6,av.kappa cs vs (by simpa[SV.closed] using hc) h7⟩
 | .ref _ _,u,hc,_=>by simp[SV.closed] at hc
 | .vec _,u,hc,_=>by simp[SV.closed] at hc
 | .vref _ _ _ _,u,hc,_=>by simp[SV.closed] at hc
 | .mp _,u,hc,_=>by simp[SV.closed] at hc
theorem av.kappa:∀ (cs:List SV) (X:List Value),SV.closeds cs=true->av w M κ cs X->av w M W cs X
 |[],X,_,h=>by simp only[av] at *;exact h
 |c::cs,X,hc,h=>by
  simp only[av,SV.closeds,Vj] at *
  obtain⟨u,g,h1,h2,E⟩:=h
  exact⟨u,g,h1,al.kappa c u hc.1 h2,av.kappa cs g hc.2 E⟩
end
end
def SV.lendC (h:Nat->Ch):SV->Option DV
 | .own m v=>if m.plain then some v else none
 | .d v=>some v
 | .nils=>some (.slice [])
 | .lit sz n cs=>SV.toDV (.lit sz n cs)
 | .vec id=>match h id with| .vec _ _ rows=>(match SV.frzR rows with|some J=>some (.slice J)|none=>none)|_=>none
 |_=>none
def SV.lendCs (h:Nat->Ch):List SV->Option (List DV)
 |[]=>some []
 |c::cs=>match SV.lendC h c,SV.lendCs h cs with|some x,some xs=>some (x::xs)|_,_=>none
mutual
def SV.lend (h:Nat->Ch):SV->Option DV
 | .vec id=>match h id with| .vec _ _ rows=>(match SV.frzR rows with|some J=>some (.slice J)|none=>none)|_=>none
 | .agg cs=>match SV.lends h cs with|some xs=>some (.agg xs)|none=>none
 | .d v=>some v
 | .nils=>some (.slice [])
 | .lit sz n cs=>SV.toDV (.lit sz n cs)
 | .tup cs=>SV.toDV (.tup cs)
 | .ref id off=>if off=0 then(match h id with| .box cs=>(match SV.lendCs h cs with|some J=>some (.ptr J)|none=>none)|_=>none) else none
 | .vref _ _ _ _=>none
 | .mp _=>none
 | .own _ _=>none
def SV.lends (h:Nat->Ch):List SV->Option (List DV)
 |[]=>some []
 |c::cs=>match SV.lend h c,SV.lends h cs with|some x,some xs=>some (x::xs)|_,_=>none
end
mutual
def DV.flat:DV->Bool
 | .int _ _=>true
 | .bool _=>true
 | .str _=>true
 | .raw _=>true
 | .err=>true
 | .any=>true
 | .agg cs=>DV.flats cs
 | .tup cs=>DV.flats cs
 | .slice _=>false
 | .ptr _=>false
 | .fn _ _=>false
 | .map _ _=>false
def DV.flats:List DV->Bool
 |[]=>true
 |c::cs=>DV.flat c&&DV.flats cs
end
section
variable {w w':World} {M M':Nat->Prop}
mutual
theorem bf.flat:∀ (d:DV) (v:Value),d.flat=true->bf w M d v->bf w' M' d v
 | .int _ _,v,_,h=>by unfold bf at *;exact h
 | .bool _,v,_,h=>by unfold bf at *;exact h
 | .str _,v,_,h=>by unfold bf at *;exact h
 | .raw _,v,_,h=>by unfold bf at *;exact h
 | .err,v,_,h=>by unfold bf at *;exact h
 | .any,v,_,h=>by unfold bf at *;exact h
 | .agg cs,v,C,h=>by
  unfold bf at *
  obtain⟨vs,h1,h2,E⟩:=h
  exact⟨vs,h1,h2,aM.flat cs vs (by simpa[DV.flat] using C) E⟩
 | .tup cs,v,C,h=>by
  unfold bf at *
  obtain⟨vs,h1,E⟩:=h
  exact⟨vs,h1,aM.flat cs vs (by simpa[DV.flat] using C) E⟩
 | .slice _,v,C,_=>by simp[DV.flat] at C
 | .ptr _,v,C,_=>by simp[DV.flat] at C
 | .fn _ _,v,C,_=>by simp[DV.flat] at C
 | .map _ _,v,C,_=>by simp[DV.flat] at C
theorem aM.flat:∀ (J:List DV) (vs:List Value),DV.flats J=true->aM w M J vs->aM w' M' J vs
 |[],vs,_,h=>by unfold aM at *;exact h
 |d::J,vs,C,h=>by
  unfold aM at *
  obtain⟨u,X,h1,h2,E⟩:=h
  simp only[DV.flats,Vj] at C
  exact⟨u,X,h1,bf.flat d u C.1 h2,aM.flat J X C.2 E⟩
end
end
section
variable {c:Cx} {σ:St} {κ:Nat->Value} {φ:Nat->List Nat} {a:Act} {w:World}
theorem M8 (D:dp c σ κ φ a w) {e sz:Nat} {rows:List (List SV)} {J:List (List DV)} (hv:σ.h id= .vec e sz rows) (L:SV.frzR rows=some J):bf w c.M0 (.slice J) (κ id):=by
 have H:=D.chunks id
 rw[hv] at H
 exact Gr (M:=own c φ) (fun b hb=> .inl hb) (fun b hb=>xj D hb) H L
theorem Lx (D:dp c σ κ φ a w) {x:SV} {F:List Nat} {d:DV} (B:∀ b∈F,¬ c.M0 b) (h:aT w (own c φ) κ x u F) (hl:SV.lendC σ.h x=some d):bf w c.M0 d u:=by
 have i:∀ b,c.M0 b->own c φ b:=fun b hb=> .inl hb
 cases x with
 |own m v=>exact rg i B h (by simpa only[SV.lendC,SV.frz] using hl)
 |d v=>exact rg i B h (by simpa only[SV.lendC,SV.frz] using hl)
 |nils=>exact rg i B h (by simpa only[SV.lendC,SV.frz] using hl)
 |lit sz n cs=>exact rg i B h (by simpa only[SV.lendC,SV.frz] using hl)
 |vec id=>
  simp only[SV.lendC] at hl
  split at hl
  ·rename_i e sz rows hv
   split at hl
   ·rename_i J L
    simp only[Vi] at hl;subst hl
    simp only[aT,al] at h
    rw[h.2]
    exact M8 D hv L
   ·cases hl
  ·cases hl
 |_=>simp[SV.lendC] at hl
theorem yn (D:dp c σ κ φ a w):∀ {cs:List SV} {X:List Value} {F:List Nat} {J:List DV},(∀ b∈F,¬ c.M0 b)->az w (own c φ) κ cs X F->SV.lendCs σ.h cs=some J->aM w c.M0 J X
 |[],X,F,J,B,h,hl=>by
  simp only[SV.lendCs,Vi] at hl;subst hl
  simp only[az] at h;unfold aM;exact h.1
 |x::cs,X,F,J,B,h,hl=>by
  simp only[SV.lendCs] at hl
  split at hl
  ·rename_i y ys hy k
   simp only[Vi] at hl;subst hl
   simp only[az] at h
   obtain⟨u,g,N,R,rfl,rfl,h1,h2⟩:=h
   unfold aM
   exact⟨u,g,rfl,Lx D (fun b hb=>B b (by simp[hb])) h1 hy,yn D (fun b hb=>B b (by simp[hb])) h2 k⟩
  ·cases hl
theorem M9 (D:dp c σ κ φ a w) {cs:List SV} {J:List DV} (hv:σ.h id= .box cs) (hl:SV.lendCs σ.h cs=some J):bf w c.M0 (.ptr J) (κ id):=by
 have H:=D.chunks id
 rw[hv] at H
 obtain⟨b,T,vs,G,h1,h2,E,h4,r4⟩:=H
 have hn:∀ b'∈b::G,¬ c.M0 b':=fun b' h6=>xj D (id:=id) (by rw[r4];exact h6)
 unfold bf
 exact⟨b,0,h1,hn b oS,(VV.1 h2).1,b4.of_row h2 (yn D (fun b' h6=>hn b' (by simp[h6])) h4 hl) E oS⟩
mutual
theorem HQ (D:dp c σ κ φ a w):∀ (x:SV) (v:Value) (d:DV),al w (own c φ) κ x v->SV.lend σ.h x=some d->bf w c.M0 d v
 | .vec id,v,d,h,hl=>by
  simp only[SV.lend] at hl
  split at hl
  ·rename_i e sz rows hv
   split at hl
   ·rename_i J L
    simp only[Vi] at hl;subst hl
    simp only[al] at h;subst h
    have H:=D.chunks id
    rw[hv] at H
    exact Gr (M:=own c φ) (fun b hb=> .inl hb) (fun b hb=>xj D hb) H L
   ·cases hl
  ·cases hl
 | .agg cs,v,d,h,hl=>by
  simp only[SV.lend] at hl
  split at hl
  ·rename_i xs T
   simp only[Vi] at hl;subst hl
   simp only[al] at h
   obtain⟨vs,h1,h2,E⟩:=h
   unfold bf
   exact⟨vs,h1,h2,Ai D cs vs xs E T⟩
  ·cases hl
 | .d x,v,d,h,hl=>(al.toDV (.d x) v d h (by simpa only[SV.lend,SV.toDV] using hl)).ext (mG.shrink fun b hb=> .inl hb)
 | .nils,v,d,h,hl=>(al.toDV .nils v d h (by simpa only[SV.lend,SV.toDV] using hl)).ext (mG.shrink fun b hb=> .inl hb)
 | .lit sz n cs,v,d,h,hl=>(al.toDV (.lit sz n cs) v d h (by simpa only[SV.lend] using hl)).ext (mG.shrink fun b hb=> .inl hb)
 | .tup cs,v,d,h,hl=>(al.toDV (.tup cs) v d h (by simpa only[SV.lend] using hl)).ext (mG.shrink fun b hb=> .inl hb)
 | .ref id off,v,d,h,hl=>by
  simp only[SV.lend] at hl
  split at hl
  ·rename_i h0
   subst h0
   split at hl
   ·rename_i cs hv
    split at hl
    ·rename_i J L
     simp only[Vi] at hl;subst hl
     simp only[al] at h
     obtain⟨b,hk,rfl⟩:=h
     rw[<-hk]
     exact M9 D hv L
    ·cases hl
   ·cases hl
  ·cases hl
 | .vref _ _ _ _,v,d,h,hl=>by simp[SV.lend] at hl
 | .mp _,v,d,h,hl=>by simp[SV.lend] at hl
 | .own _ _,v,d,h,hl=>by simp[SV.lend] at hl
theorem Ai (D:dp c σ κ φ a w):∀ (cs:List SV) (vs:List Value) (J:List DV),av w (own c φ) κ cs vs->SV.lends σ.h cs=some J->aM w c.M0 J vs
 |[],vs,J,h,hl=>by
  simp only[SV.lends,Vi] at hl;subst hl
  simp only[av] at h;unfold aM;exact h
 |x::cs,vs,J,h,hl=>by
  simp only[SV.lends] at hl
  split at hl
  ·rename_i y ys hy k
   simp only[Vi] at hl;subst hl
   simp only[av] at h
   obtain⟨u,X,h1,h2,E⟩:=h
   unfold aM
   exact⟨u,X,h1,HQ D x u y h2 hy,Ai D cs X ys E k⟩
  ·cases hl
end
end
def l0 {α:Type}:List (Nat×α)->(Nat->α)->Nat->α
 |[],f=>f
 |(i,v)::L,f=>ap (l0 L f) i v
inductive HandL (h:Nat->Ch):List SV->List SV->List SV->List (Nat×Ch)->Prop
 |nil:HandL h [] [] [] []
 |data {x:SV} {d:DV} {xs ins outs:List SV} {L:List (Nat×Ch)} (hx:x.toDV=some d) (hl:HandL h xs ins outs L):HandL h (x::xs) (.d d::ins) (.d d::outs) L
 |nils {e:Nat} {ms:List bH} {xs ins outs:List SV} {L:List (Nat×Ch)} (hl:HandL h xs ins outs L):HandL h (.nils::xs) (.own (.sl e ms) (.slice [])::ins) (.d .any::outs) L
 |move {id:Nat} {m:bH} {d:DV} {ch:Ch} {mk:Nat->SV} {xs ins outs:List SV} {L:List (Nat×Ch)} (ho:cP m d=some (ch,mk)) (hs:gm m d) (hh:h id=ch) (hn:id∉L.map Prod.fst) (hl:HandL h xs ins outs L):
   HandL h (mk id::xs) (.own m d::ins) (.d .any::outs) ((id,.dead)::L)
 |ptr {id:Nat} {m:bH} {d d':DV} {ch ch':Ch} {mk mk':Nat->SV} {xs ins outs:List SV} {L:List (Nat×Ch)} (ho:cP m d=some (ch,mk)) (hs:gm m d) (ho':cP m d'=some (ch',mk')) (hh:h id=ch) (hn:id∉L.map Prod.fst) (hl:HandL h xs ins outs L):
   HandL h (mk id::xs) (.own m d::ins) (.own m d'::outs) ((id,ch')::L)
def jU (φ:Nat->List Nat):List (Nat×Ch)->List Nat
 |[]=>[]
 |(id,_)::L=>φ id++jU φ L
theorem cM {φ:Nat->List Nat} {b:Nat}:∀ {L:List (Nat×Ch)},b∈jU φ L↔∃ id∈L.map Prod.fst,b∈φ id
 |[]=>by simp[jU]
 |(i,ch)::L=>by simp only[jU,VM,cM (L:=L)];simp
theorem oy {α:Type} {j:Nat} {f:Nat->α}:∀ {L:List (Nat×α)},j∉L.map Prod.fst->l0 L f j=f j
 |[],_=>rfl
 |(i,v)::L,h=>by
  simp only[VF,VK,not_or] at h
  rw[l0,bh _ _ _ _ h.1,oy h.2]
section
variable {c:Cx} {σ:St} {κ:Nat->Value} {φ:Nat->List Nat} {a:Act} {w:World}
theorem yo (D:dp c σ κ φ a w) (h:HandL σ.h xs ins outs L):(jU φ L).Nodup/\(L.map Prod.fst).Nodup:=by
 have key:∀ (id:Nat) (L:List (Nat×Ch)),id∉L.map Prod.fst->(jU φ L).Nodup/\(L.map Prod.fst).Nodup->∀ ch,(jU φ ((id,ch)::L)).Nodup/\(((id,ch)::L).map Prod.fst).Nodup:=fun id L hn ih ch=>by
  refine⟨V6.2 ⟨D.nod id,ih.1,fun x hx y hy e=> ?_⟩,by simpa using⟨by simpa using hn,ih.2⟩⟩
  subst e
  obtain⟨j,hj,r3⟩:=cM.1 hy
  exact D.sep id j x (fun e=>hn (e▸hj)) hx r3
 induction h with
 |nil=>simp[jU]
 |data _ _ ih=>exact ih
 |nils _ ih=>exact ih
 |move _ _ _ hn _ ih=>exact key _ _ hn ih _
 |ptr _ _ _ _ hn _ ih=>exact key _ _ hn ih _
theorem M_ (D:dp c σ κ φ a w) (hM:∀ b,M b->own c φ b) (h:HandL σ.h xs ins outs L):∀ {vs:List Value},av w (own c φ) κ xs vs->az w M κ0 ins vs (jU φ L):=by
 have Q:mG w (own c φ) w M:=mG.shrink hM
 have key:∀ {id:Nat} {m:bH} {d:DV} {ch:Ch} {mk:Nat->SV} {u:Value},cP m d=some (ch,mk)->gm m d->σ.h id=ch->al w (own c φ) κ (mk id) u->aT w M κ0 (.own m d) u (φ id):=fun{id m d ch mk u} ho hs hh hu=>by
  have H:=D.chunks id
  rw[hh] at H
  obtain⟨hk,_⟩:=GG (φ:=φ) ho (aT.of_S _ _ hu) H
  simp only[aT]
  exact f8.ext Q _ _ _ _ (fun _ _=>rfl) ((rR hs ho hk).1 H)
 induction h with
 |nil=>intro vs hx;simp only[av] at hx;simp[az,jU,hx]
 |data hx _ ih=>
  intro vs T
  simp only[av] at T
  obtain⟨u,X,rfl,h1,h2⟩:=T
  simp only[az]
  exact⟨u,X,[],_,rfl,by simp,by unfold aT al;exact⟨rfl,(al.toDV _ _ _ h1 hx).ext Q⟩,ih h2⟩
 |nils _ ih=>
  intro vs T
  simp only[av] at T
  obtain⟨u,X,rfl,h1,h2⟩:=T
  simp only[al] at h1
  simp only[az]
  refine⟨u,X,[],_,rfl,by simp, ?_,ih h2⟩
  simp only[aT,f8]
  subst h1
  exact⟨[],[],[],rfl,World.ownsRow_nil w 0 _ _,by simp,by simp,by simp[gW],by simp[gT,vr]⟩
 |move ho hs hh _ _ ih=>
  intro vs T
  simp only[av] at T
  obtain⟨u,X,rfl,h1,h2⟩:=T
  simp only[az]
  exact⟨u,X,_,_,rfl,rfl,key ho hs hh h1,ih h2⟩
 |ptr ho hs _ hh _ _ ih=>
  intro vs T
  simp only[av] at T
  obtain⟨u,X,rfl,h1,h2⟩:=T
  simp only[az]
  exact⟨u,X,_,_,rfl,rfl,key ho hs hh h1,ih h2⟩
theorem Fj (D:dp c σ κ φ a w) (h:HandL σ.h xs ins outs L):∀ {vs:List Value} {F:List Nat},av w (own c φ) κ xs vs->az w' M κ0 outs vs F->
  ∃ g:List (Nat×List Nat),g.map Prod.fst=L.map Prod.fst/\(∀ b,b∈F↔∃ p∈g,b∈p.2)/\(F.Nodup->(∀ p∈g,p.2.Nodup)/\∀ p∈g,∀ q∈g,∀ b,p.1≠q.1->b∈p.2->b∉q.2)/\
   (∀ j,j∈L.map Prod.fst->lV w' M κ j (l0 L σ.h j) (l0 g φ j))/\∀ p∈g,l0 g φ p.1=p.2:=by
 have key:∀ {id:Nat} {L:List (Nat×Ch)} {ch':Ch} {N R:List Nat} {g:List (Nat×List Nat)},id∉L.map Prod.fst->lV w' M κ id ch' N->g.map Prod.fst=L.map Prod.fst->(∀ b,b∈R↔∃ p∈g,b∈p.2)->
   (R.Nodup->(∀ p∈g,p.2.Nodup)/\∀ p∈g,∀ q∈g,∀ b,p.1≠q.1->b∈p.2->b∉q.2)->(∀ j,j∈L.map Prod.fst->lV w' M κ j (l0 L σ.h j) (l0 g φ j))->(∀ p∈g,l0 g φ p.1=p.2)->
   ∃ i:List (Nat×List Nat),i.map Prod.fst=((id,ch')::L).map Prod.fst/\(∀ b,b∈N++R↔∃ p∈i,b∈p.2)/\((N++R).Nodup->(∀ p∈i,p.2.Nodup)/\∀ p∈i,∀ q∈i,∀ b,p.1≠q.1->b∈p.2->b∉q.2)/\
    (∀ j,j∈((id,ch')::L).map Prod.fst->lV w' M κ j (l0 ((id,ch')::L) σ.h j) (l0 i φ j))/\∀ p∈i,l0 i φ p.1=p.2:=fun{id L ch' N R g} hn v h1 h2 E h4 h5=>by
  have U:∀ p∈g,p.1≠id:=fun p Y e=>hn (by rw[<-h1,<-e];exact List.mem_map_of_mem Y)
  refine⟨(id,N)::g,by simp[h1],fun b=> ?_,fun r3=> ?_,fun j hj=> ?_,fun p Y=> ?_⟩
  ·simp[h2 b]
  ·obtain⟨o,V,t⟩:=V6.1 r3
   obtain⟨k1,k2⟩:=E V
   refine⟨fun p Y=> ?_,fun p Y q hq b k hb=> ?_⟩
   ·rcases VK.1 Y with rfl|Y
    ·exact o
    ·exact k1 p Y
   ·rcases VK.1 Y with rfl|Y
    ·rcases VK.1 hq with rfl|hq
     ·exact absurd rfl k
     ·exact fun h6=>t b hb b ((h2 b).2 ⟨q,hq,h6⟩) rfl
    ·rcases VK.1 hq with rfl|hq
     ·exact fun h6=>t b h6 b ((h2 b).2 ⟨p,Y,hb⟩) rfl
     ·exact k2 p Y q hq b k hb
  ·simp only[l0]
   by_cases f:j=id
   ·subst f;rw[aC,aC];exact v
   ·rw[bh _ _ _ _ f,bh _ _ _ _ f]
    simp only[VF,VK,f,false_or] at hj
    exact h4 j hj
  ·simp only[l0]
   rcases VK.1 Y with rfl|Y
   ·rw[aC]
   ·rw[bh _ _ _ _ (U p Y)];exact h5 p Y
 induction h with
 |nil=>
  intro vs F _ B
  simp only[az] at B
  exact⟨[],rfl,by simp[B.2],fun _=>by simp,by simp,by simp⟩
 |data hx _ ih=>
  intro vs F T B
  simp only[av] at T
  obtain⟨u,X,rfl,h1,h2⟩:=T
  simp only[az,V9] at B
  obtain⟨_,_,N,R,⟨rfl,rfl⟩,rfl,k1,k2⟩:=B
  simp only[aT] at k1
  obtain⟨rfl,_⟩:=k1
  simpa using ih h2 k2
 |nils _ ih=>
  intro vs F T B
  simp only[av] at T
  obtain⟨u,X,rfl,h1,h2⟩:=T
  simp only[az,V9] at B
  obtain⟨_,_,N,R,⟨rfl,rfl⟩,rfl,k1,k2⟩:=B
  simp only[aT] at k1
  obtain⟨rfl,_⟩:=k1
  simpa using ih h2 k2
 |move _ _ _ hn _ ih=>
  intro vs F T B
  simp only[av] at T
  obtain⟨u,X,rfl,h1,h2⟩:=T
  simp only[az,V9] at B
  obtain⟨_,_,N,R,⟨rfl,rfl⟩,rfl,k1,k2⟩:=B
  simp only[aT] at k1
  obtain⟨rfl,_⟩:=k1
  obtain⟨g,g1,g2,g3,g4,g5⟩:=ih h2 k2
  exact key hn (ch':= .dead) rfl g1 g2 g3 g4 g5
 | @ptr id m d d' ch ch' mk mk' _ _ _ _ ho hs ho' hh hn _ ih=>
  intro vs F T B
  simp only[av] at T
  obtain⟨u,X,rfl,h1,h2⟩:=T
  simp only[az,V9] at B
  obtain⟨_,_,N,R,⟨rfl,rfl⟩,rfl,k1,k2⟩:=B
  have H:=D.chunks id
  rw[hh] at H
  obtain⟨hk,_⟩:=GG (φ:=φ) ho (aT.of_S _ _ h1) H
  simp only[aT] at k1
  obtain⟨g,g1,g2,g3,g4,g5⟩:=ih h2 k2
  exact key hn ((rR k1.shape ho' hk).2 k1) g1 g2 g3 g4 g5
theorem dp.called (D:dp c σ κ φ a w) (h:HandL σ.h xs ins outs L) (T:av w (own c φ) κ xs vs) (E:az w' (fun b=>(own c φ b/\b∉jU φ L)\/b∈N++R) κ0 outs vs N) (r3:(N++R).Nodup) (n:∀ b∈N++R,(b∈jU φ L\/w.heap.size<=b)/\b<w'.heap.size) (k:Fa w.heap.size (· ∈jU φ L) w w'):
  ∃ h4,dp c ⟨σ.s,l0 L σ.h⟩ κ h4 a w'/\(∀ b,own c h4 b->(own c φ b/\b∉jU φ L)\/b∈N++R)/\∀ id b,b∈R->b∉h4 id:=by
 obtain⟨o,V,t⟩:=V6.1 r3
 obtain⟨g,g1,g2,g3,g4,g5⟩:=Fj D h T E
 obtain⟨z,A⟩:=g3 o
 obtain⟨_,G⟩:=yo D h
 have f:∀ j b,b∈l0 g φ j->(j∈L.map Prod.fst/\b∈N/\∃ p∈g,p.1=j/\b∈p.2)\/(j∉L.map Prod.fst/\b∈φ j):=fun j b hb=>by
  by_cases hj:j∈L.map Prod.fst
  ·have X:=hj
   rw[<-g1] at hj
   obtain⟨p,Y,rfl⟩:=VT.1 hj
   rw[g5 p Y] at hb
   exact .inl ⟨X,(g2 b).2 ⟨p,Y,hb⟩,p,Y,rfl,hb⟩
  ·rw[oy (by rw[g1];exact hj)] at hb
   exact .inr ⟨hj,hb⟩
 have d:∀ b,own c (l0 g φ) b->(own c φ b/\b∉jU φ L)\/b∈N++R:=fun b hb=>by
  rcases hb with hb|⟨j,hb⟩
  ·refine .inl ⟨.inl hb,fun C=> ?_⟩
   obtain⟨id,_,hi⟩:=cM.1 C
   exact xj D hi hb
  ·rcases f j b hb with⟨_,h1,_⟩|⟨hj,h1⟩
   ·exact .inr (by simp[h1])
   ·refine .inl ⟨.inr ⟨j,h1⟩,fun C=> ?_⟩
    obtain⟨id,hid,hi⟩:=cM.1 C
    exact D.sep j id b (fun e=>hj (e▸hid)) h1 hi
 have Q:mG w (own c φ) w' (own c (l0 g φ)):=⟨k.size,fun b hb Z=>⟨k.block b hb fun C=>by
   obtain⟨id,_,hi⟩:=cM.1 C
   exact Z (.inr ⟨id,hi⟩),fun ho=>by
   rcases d b ho with h|h
   ·exact Z h.1
   ·rcases(n b h).1 with h|h
    ·obtain⟨id,_,hi⟩:=cM.1 h
     exact Z (.inr ⟨id,hi⟩)
    ·omega⟩⟩
 have l:∀ j,j∉L.map Prod.fst->∀ b∈φ j,w'.heap[b]?=w.heap[b]?:=fun j hj b hb=>k.block b (D.mine j b hb).1 fun C=>by
  obtain⟨id,hid,hi⟩:=cM.1 C
  exact D.sep j id b (fun e=>hj (e▸hid)) hb hi
 refine⟨l0 g φ,⟨?_,Wz D.size k.size,D.m0,D.ntmps,D.defers,D.kok,fun i hi=>al.ext Q _ _ (D.slots i hi),fun i v hv=>al.ext Q _ _ (D.ghost i v hv),fun j=> ?_,fun j b hb=> ?_,fun j=> ?_,fun i j b r0 hi hj=> ?_⟩,d,fun id b hb m=> ?_⟩
 ·refine D.chg.trans ⟨k.os,k.tape,k.output,k.size,fun b hb hA=>k.block b (V_ hb D.size) fun C=> ?_⟩
  obtain⟨id,_,hi⟩:=cM.1 C
  rcases(D.mine id b hi).2 with h|h
  ·omega
  ·exact hA h
 ·by_cases hj:j∈L.map Prod.fst
  ·exact(g4 j hj).ext (mG.shrink d) (fun _ _=>rfl)
  ·dsimp only
   rw[oy hj,oy (by rw[g1];exact hj)]
   exact(D.chunks j).ext Q (l j hj)
 ·rcases f j b hb with⟨_,h1,_⟩|⟨hj,h1⟩
  ·have:=n b (by simp[h1])
   refine⟨this.2, ?_⟩
   rcases this.1 with h|h
   ·obtain⟨id,_,hi⟩:=cM.1 h
    exact(D.mine id b hi).2
   ·exact .inl (Wz D.size h)
  ·exact⟨V_ (D.mine j b h1).1 k.size,(D.mine j b h1).2⟩
 ·by_cases hj:j∈L.map Prod.fst
  ·rw[<-g1] at hj
   obtain⟨p,Y,rfl⟩:=VT.1 hj
   rw[g5 p Y];exact z p Y
  ·rw[oy (by rw[g1];exact hj)];exact D.nod j
 ·rcases f i b hi with⟨_,h1,p,Y,rfl,B⟩|⟨h5,h1⟩
  ·rcases f j b hj with⟨_,_,q,hq,rfl,s⟩|⟨X,h2⟩
   ·exact A p Y q hq b r0 B s
   ·rcases(n b (by simp[h1])).1 with h|h
    ·obtain⟨id,hid,hi⟩:=cM.1 h
     exact D.sep j id b (fun e=>X (e▸hid)) h2 hi
    ·have:=(D.mine j b h2).1;omega
  ·rcases f j b hj with⟨_,h2,_⟩|⟨X,h2⟩
   ·rcases(n b (by simp[h2])).1 with h|h
    ·obtain⟨id,hid,hi⟩:=cM.1 h
     exact D.sep i id b (fun e=>h5 (e▸hid)) h1 hi
    ·have:=(D.mine i b h1).1;omega
   ·exact D.sep i j b r0 h1 h2
 ·rcases f id b m with⟨_,h1,_⟩|⟨X,h2⟩
  ·exact t b h1 b hb rfl
  ·rcases(n b (by simp[hb])).1 with h|h
   ·obtain⟨i,hid,hi⟩:=cM.1 h
    exact D.sep id i b (fun e=>X (e▸hid)) h2 hi
   ·have:=(D.mine id b h2).1;omega
theorem dp.called2 (D:dp c σ κ φ a w) (h:HandL σ.h xs ins outs L) (T:av w (own c φ) κ xs vs) (E:az w' (fun b=>(own c φ b/\b∉jU φ L)\/b∈N++R) κ0 outs vs N) (r3:(N++R).Nodup) (n:∀ b∈N++R,(b∈jU φ L\/w.heap.size<=b)/\b<w'.heap.size) (k:Fa w.heap.size (· ∈jU φ L) w w') {dst:Nat} {ch:Ch} (r1:u.oneCell'=true) (F:lV w' (fun b=>(own c φ b/\b∉jU φ L)\/b∈N++R) (ap κ dst u) dst ch R):
  ∃ h4,dp c ⟨bG dst .any σ.s,ap (bK dst .any (l0 L σ.h)) dst ch⟩ (ap κ dst u) h4 a w'/\(∀ b,own c h4 b->(own c φ b/\b∉jU φ L)\/b∈N++R):=by
 obtain⟨o,V,t⟩:=V6.1 r3
 obtain⟨g,g1,g2,g3,g4,g5⟩:=Fj D h T E
 obtain⟨z,A⟩:=g3 o
 obtain⟨_,G⟩:=yo D h
 have f:∀ j b,b∈l0 g φ j->(j∈L.map Prod.fst/\b∈N/\∃ p∈g,p.1=j/\b∈p.2)\/(j∉L.map Prod.fst/\b∈φ j):=fun j b hb=>by
  by_cases hj:j∈L.map Prod.fst
  ·have X:=hj
   rw[<-g1] at hj
   obtain⟨p,Y,rfl⟩:=VT.1 hj
   rw[g5 p Y] at hb
   exact .inl ⟨X,(g2 b).2 ⟨p,Y,hb⟩,p,Y,rfl,hb⟩
  ·rw[oy (by rw[g1];exact hj)] at hb
   exact .inr ⟨hj,hb⟩
 have y:∀ b,own c (l0 g φ) b->(own c φ b/\b∉jU φ L)\/b∈N++R:=fun b hb=>by
  rcases hb with hb|⟨j,hb⟩
  ·refine .inl ⟨.inl hb,fun C=> ?_⟩
   obtain⟨id,_,hi⟩:=cM.1 C
   exact xj D hi hb
  ·rcases f j b hb with⟨_,h1,_⟩|⟨hj,h1⟩
   ·exact .inr (by simp[h1])
   ·refine .inl ⟨.inr ⟨j,h1⟩,fun C=> ?_⟩
    obtain⟨id,hid,hi⟩:=cM.1 C
    exact D.sep j id b (fun e=>hj (e▸hid)) h1 hi
 have h8:∀ j b,b∈ap (l0 g φ) dst R j->(j=dst/\b∈R)\/(j≠dst/\b∈l0 g φ j):=fun j b hb=>by
  by_cases hj:j=dst
  ·subst hj;rw[aC] at hb;exact .inl ⟨rfl,hb⟩
  ·rw[bh _ _ _ _ hj] at hb;exact .inr ⟨hj,hb⟩
 have d:∀ b,own c (ap (l0 g φ) dst R) b->(own c φ b/\b∉jU φ L)\/b∈N++R:=fun b hb=>by
  rcases hb with hb|⟨j,hb⟩
  ·exact y b (.inl hb)
  ·rcases h8 j b hb with⟨_,h1⟩|⟨_,h1⟩
   ·exact .inr (by simp[h1])
   ·exact y b (.inr ⟨j,h1⟩)
 have Q:mG w (own c φ) w' (own c (ap (l0 g φ) dst R)):=⟨k.size,fun b hb Z=>⟨k.block b hb fun C=>by
   obtain⟨id,_,hi⟩:=cM.1 C
   exact Z (.inr ⟨id,hi⟩),fun ho=>by
   rcases d b ho with h|h
   ·exact Z h.1
   ·rcases(n b h).1 with h|h
    ·obtain⟨id,_,hi⟩:=cM.1 h
     exact Z (.inr ⟨id,hi⟩)
    ·omega⟩⟩
 have l:∀ j,j∉L.map Prod.fst->∀ b∈φ j,w'.heap[b]?=w.heap[b]?:=fun j hj b hb=>k.block b (D.mine j b hb).1 fun C=>by
  obtain⟨id,hid,hi⟩:=cM.1 C
  exact D.sep j id b (fun e=>hj (e▸hid)) hb hi
 have x:∀ (w:World) (M:Nat->Prop) (v:Value),bf w M .any v:=fun w M v=>by unfold bf;trivial
 have H:∀ j b,b∈R->b∈l0 g φ j->False:=fun j b hb r=>by
  rcases f j b r with⟨_,h1,_⟩|⟨X,h2⟩
  ·exact t b h1 b hb rfl
  ·rcases(n b (by simp[hb])).1 with h|h
   ·obtain⟨i,hid,hi⟩:=cM.1 h
    exact D.sep j i b (fun e=>X (e▸hid)) h2 hi
   ·have:=(D.mine j b h2).1;omega
 refine⟨ap (l0 g φ) dst R,⟨?_,Wz D.size k.size,D.m0,D.ntmps,D.defers,fun j=> ?_,fun i hi=>ji Q (x _ _ _) _ _ (D.slots i hi),fun i v hv=>ji Q (x _ _ _) _ _ (D.ghost i v hv),fun j=> ?_,fun j b hb=> ?_,fun j=> ?_,fun i j b r0 hi hj=> ?_⟩,d⟩
 ·refine D.chg.trans ⟨k.os,k.tape,k.output,k.size,fun b hb hA=>k.block b (V_ hb D.size) fun C=> ?_⟩
  obtain⟨id,_,hi⟩:=cM.1 C
  rcases(D.mine id b hi).2 with h|h
  ·omega
  ·exact hA h
 ·by_cases hj:j=dst
  ·subst hj;rw[aC];exact r1
  ·rw[bh _ _ _ _ hj];exact D.kok j
 ·dsimp only
  by_cases m:j=dst
  ·subst m
   rw[aC,aC]
   exact F.ext (mG.shrink d) (fun _ _=>rfl)
  ·rw[bh _ _ _ _ m,bh _ _ _ _ m]
   by_cases hj:j∈L.map Prod.fst
   ·exact zb (mG.shrink d) (x _ _ _) m (fun _ _=>rfl) (g4 j hj)
   ·have:=zb (v:=u) Q (x _ _ (κ dst)) m (l j hj) (D.chunks j)
    rw[oy (by rw[g1];exact hj)]
    simp only[bK]
    rw[oy hj]
    exact this
 ·rcases h8 j b hb with⟨_,h1⟩|⟨_,hb⟩
  ·have:=n b (by simp[h1])
   refine⟨this.2, ?_⟩
   rcases this.1 with h|h
   ·obtain⟨id,_,hi⟩:=cM.1 h
    exact(D.mine id b hi).2
   ·exact .inl (Wz D.size h)
  ·rcases f j b hb with⟨_,h1,_⟩|⟨hj,h1⟩
   ·have:=n b (by simp[h1])
    refine⟨this.2, ?_⟩
    rcases this.1 with h|h
    ·obtain⟨id,_,hi⟩:=cM.1 h
     exact(D.mine id b hi).2
    ·exact .inl (Wz D.size h)
   ·exact⟨V_ (D.mine j b h1).1 k.size,(D.mine j b h1).2⟩
 ·by_cases m:j=dst
  ·subst m;rw[aC];exact V
  ·rw[bh _ _ _ _ m]
   by_cases hj:j∈L.map Prod.fst
   ·rw[<-g1] at hj
    obtain⟨p,Y,rfl⟩:=VT.1 hj
    rw[g5 p Y];exact z p Y
   ·rw[oy (by rw[g1];exact hj)];exact D.nod j
 ·rcases h8 i b hi with⟨I,r5⟩|⟨_,hi⟩
  ·rcases h8 j b hj with⟨S,r4⟩|⟨_,hj⟩
   ·exact r0 (I.trans S.symm)
   ·exact H j b r5 hj
  ·rcases h8 j b hj with⟨S,r4⟩|⟨_,hj⟩
   ·exact H i b r4 hi
   ·rcases f i b hi with⟨_,h1,p,Y,rfl,B⟩|⟨h5,h1⟩
    ·rcases f j b hj with⟨_,_,q,hq,rfl,s⟩|⟨X,h2⟩
     ·exact A p Y q hq b r0 B s
     ·rcases(n b (by simp[h1])).1 with h|h
      ·obtain⟨id,hid,hi⟩:=cM.1 h
       exact D.sep j id b (fun e=>X (e▸hid)) h2 hi
      ·have:=(D.mine j b h2).1;omega
    ·rcases f j b hj with⟨_,h2,_⟩|⟨X,h2⟩
     ·rcases(n b (by simp[h2])).1 with h|h
      ·obtain⟨id,hid,hi⟩:=cM.1 h
       exact D.sep i id b (fun e=>h5 (e▸hid)) h1 hi
      ·have:=(D.mine i b h1).1;omega
     ·exact D.sep i j b r0 h1 h2
end
