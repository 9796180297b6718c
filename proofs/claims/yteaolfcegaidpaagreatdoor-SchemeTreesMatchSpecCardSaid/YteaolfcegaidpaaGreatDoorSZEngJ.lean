/-
  My text.
-/
import Derived.Test.YteaolfcegaidpaaGreatDoorSZEngO
namespace Go.Proofs.YteaolfcegaidpaaGreatDoor
set_option linter.unusedSimpArgs false
set_option linter.unusedVariables false
open Go.RowKit
variable {I:List Nat} {L:List (Nat×Ch)} {M:Nat->Prop} {id:Nat} {ins outs:List SV} {u:Value} {vs:List Value} {w':World} {xs:List SV} {z:List Nat}
def aa (P:Program) (f:FuncId) (args:List DV) (C:DV):Prop:=
 mh P f=true/\∀ (w:World) (M:Nat->Prop) (vs:List Value),(∀ b,M b->b<w.heap.size)->aN w M args vs->y0 w->
  Calls P f vs.toArray w fun e w'=>∃ v,e= .returned v/\ba w' M C v/\Below w.heap.size w w'
def κ0:Nat->Value:=fun _=> .pointer none
def bB (P:Program) (f:FuncId) (args:List SV) (C:SV) (outs:List SV):Prop:=
 mh P f=true/\∀ (w:World) (M:Nat->Prop) (vs:List Value) (F:List Nat),(∀ b,M b->b<w.heap.size/\b∉F)->(∀ b∈F,b<w.heap.size)->F.Nodup->ar w (fun b=>M b\/b∈F) κ0 args vs F->y0 w->Hk (· ∈F)->
  Calls P f vs.toArray w fun e w'=>∃ v z I,e= .returned v/\ar w' (fun b=>M b\/b∈z++I) κ0 outs vs z/\aQ w' (fun b=>M b\/b∈z++I) κ0 C v I/\(z++I).Nodup/\
   (∀ b∈z++I,(b∈F\/w.heap.size<=b)/\b<w'.heap.size)/\AK w.heap.size (· ∈F) w w'
mutual
def SV.closed:SV->Bool
 | .own _ _=>true
 | .agg cs=>SV.closeds cs
 | .tup cs=>SV.closeds cs
 | .d _=>true
 | .nils=>true
 | .lit _ _ cs=>SV.closeds cs
 | .ref _ _=>false
 | .vec _=>false
 | .vref _ _ _ _=>false
 | .mp _=>false
 | .clo _ _=>false
def SV.closeds:List SV->Bool
 |[]=>true
 |c::cs=>SV.closed c&&SV.closeds cs
end
section
variable {w:World} {M:Nat->Prop} {κ W:Nat->Value}
mutual
theorem ah.kappa:∀ (x:SV) (u:Value),x.closed=true->ah w M κ x u->ah w M W x u
 | .own _ _,u,_,h=>by simp only[ah] at h
 | .agg cs,u,hc,h=>by
  simp only[ah] at *
  obtain⟨vs,h1,h2,E⟩:=h
  exact⟨vs,h1,h2,an.kappa cs vs (by simpa[SV.closed] using hc) E⟩
 | .tup cs,u,hc,h=>by
  simp only[ah] at *
  obtain⟨vs,h1,E⟩:=h
  exact⟨vs,h1,an.kappa cs vs (by simpa[SV.closed] using hc) E⟩
 | .d _,u,_,h=>by simp only[ah] at *;exact h
 | .nils,u,_,h=>by simp only[ah] at *;exact h
 | .lit _ _ cs,u,hc,h=>by
  simp only[ah] at *
  obtain⟨b,vs,h1,h2,E,h4,h5,h6,h7⟩:=h
  exact⟨b,vs,h1,h2,E,h4,h5,h6,an.kappa cs vs (by simpa[SV.closed] using hc) h7⟩
 | .ref _ _,u,hc,_=>by simp[SV.closed] at hc
 | .vec _,u,hc,_=>by simp[SV.closed] at hc
 | .vref _ _ _ _,u,hc,_=>by simp[SV.closed] at hc
 | .mp _,u,hc,_=>by simp[SV.closed] at hc
 | .clo _ _,u,hc,_=>by simp[SV.closed] at hc
theorem an.kappa:∀ (cs:List SV) (us:List Value),SV.closeds cs=true->an w M κ cs us->an w M W cs us
 |[],us,_,h=>by simp only[an] at *;exact h
 |c::cs,us,hc,h=>by
  simp only[an,SV.closeds,SR] at *
  obtain⟨u,g,h1,h2,E⟩:=h
  exact⟨u,g,h1,ah.kappa c u hc.1 h2,an.kappa cs g hc.2 E⟩
end
end
def SV.lendC (h:Nat->Ch):SV->Option DV
 | .own m v=>if m.plain then some v else none
 | .d v=>some v
 | .nils=>some (.slice [])
 | .lit sz n cs=>SV.toDV (.lit sz n cs)
 | .vec id=>match h id with| .vec _ _ rows=>(match SV.frzR rows with|some O=>some (.slice O)|none=>none)|_=>none
 |_=>none
def SV.lendCs (h:Nat->Ch):List SV->Option (List DV)
 |[]=>some []
 |c::cs=>match SV.lendC h c,SV.lendCs h cs with|some x,some xs=>some (x::xs)|_,_=>none
mutual
def SV.lend (h:Nat->Ch):SV->Option DV
 | .vec id=>match h id with| .vec _ _ rows=>(match SV.frzR rows with|some O=>some (.slice O)|none=>none)|_=>none
 | .agg cs=>match SV.lends h cs with|some xs=>some (.agg xs)|none=>none
 | .d v=>some v
 | .nils=>some (.slice [])
 | .lit sz n cs=>SV.toDV (.lit sz n cs)
 | .tup cs=>SV.toDV (.tup cs)
 | .ref id off=>if off=0 then(match h id with| .box cs=>(match SV.lendCs h cs with|some O=>some (.ptr O)|none=>none)|_=>none) else none
 | .vref _ _ _ _=>none
 | .mp _=>none
 | .clo _ _=>none
 | .own _ _=>none
def SV.lends (h:Nat->Ch):List SV->Option (List DV)
 |[]=>some []
 |c::cs=>match SV.lend h c,SV.lends h cs with|some x,some xs=>some (x::xs)|_,_=>none
end
mutual
def DV.flat:DV->Bool
 | .int _ _=>true
 | .bool _=>true
 | .str _=>true
 | .raw _=>true
 | .err=>true
 | .any=>true
 | .agg cs=>DV.flats cs
 | .tup cs=>DV.flats cs
 | .slice _=>false
 | .ptr _=>false
 | .fn _ _=>false
 | .map _ _=>false
def DV.flats:List DV->Bool
 |[]=>true
 |c::cs=>DV.flat c&&DV.flats cs
end
section
variable {w w':World} {M M':Nat->Prop}
mutual
theorem ba.flat:∀ (d:DV) (v:Value),d.flat=true->ba w M d v->ba w' M' d v
 | .int _ _,v,_,h=>by unfold ba at *;exact h
 | .bool _,v,_,h=>by unfold ba at *;exact h
 | .str _,v,_,h=>by unfold ba at *;exact h
 | .raw _,v,_,h=>by unfold ba at *;exact h
 | .err,v,_,h=>by unfold ba at *;exact h
 | .any,v,_,h=>by unfold ba at *;exact h
 | .agg cs,v,hf,h=>by
  unfold ba at *
  obtain⟨vs,h1,h2,E⟩:=h
  exact⟨vs,h1,h2,aN.flat cs vs (by simpa[DV.flat] using hf) E⟩
 | .tup cs,v,hf,h=>by
  unfold ba at *
  obtain⟨vs,h1,E⟩:=h
  exact⟨vs,h1,aN.flat cs vs (by simpa[DV.flat] using hf) E⟩
 | .slice _,v,hf,_=>by simp[DV.flat] at hf
 | .ptr _,v,hf,_=>by simp[DV.flat] at hf
 | .fn _ _,v,hf,_=>by simp[DV.flat] at hf
 | .map _ _,v,hf,_=>by simp[DV.flat] at hf
theorem aN.flat:∀ (O:List DV) (vs:List Value),DV.flats O=true->aN w M O vs->aN w' M' O vs
 |[],vs,_,h=>by unfold aN at *;exact h
 |d::O,vs,hf,h=>by
  unfold aN at *
  obtain⟨u,us,h1,h2,E⟩:=h
  simp only[DV.flats,SR] at hf
  exact⟨u,us,h1,ba.flat d u hf.1 h2,aN.flat O us hf.2 E⟩
end
end
section
variable {c:Cx} {σ:St} {κ:Nat->Value} {φ:Nat->List Nat} {a:Act} {w:World}
theorem Me (hr:cH c σ κ φ a w) {e sz:Nat} {rows:List (List SV)} {O:List (List DV)} (hv:σ.h id= .vec e sz rows) (r8:SV.frzR rows=some O):ba w c.M0 (.slice O) (κ id):=by
 have r2:=hr.chunks id
 rw[hv] at r2
 exact Gn (M:=own c φ) (fun b hb=> .inl hb) (fun b hb=>yk hr hb) r2 r8
theorem KU (hr:cH c σ κ φ a w) {x:SV} {F:List Nat} {d:DV} (Q:∀ b∈F,¬ c.M0 b) (h:aQ w (own c φ) κ x u F) (hl:SV.lendC σ.h x=some d):ba w c.M0 d u:=by
 have l:∀ b,c.M0 b->own c φ b:=fun b hb=> .inl hb
 cases x with
 |own m v=>exact rA l Q h (by simpa only[SV.lendC,SV.frz] using hl)
 |d v=>exact rA l Q h (by simpa only[SV.lendC,SV.frz] using hl)
 |nils=>exact rA l Q h (by simpa only[SV.lendC,SV.frz] using hl)
 |lit sz n cs=>exact rA l Q h (by simpa only[SV.lendC,SV.frz] using hl)
 |vec id=>
  simp only[SV.lendC] at hl
  split at hl
  ·rename_i e sz rows hv
   split at hl
   ·rename_i O r8
    simp only[SN] at hl;subst hl
    simp only[aQ,ah] at h
    rw[h.2]
    exact Me hr hv r8
   ·cases hl
  ·cases hl
 |_=>simp[SV.lendC] at hl
theorem y6 (hr:cH c σ κ φ a w):∀ {cs:List SV} {us:List Value} {F:List Nat} {O:List DV},(∀ b∈F,¬ c.M0 b)->ar w (own c φ) κ cs us F->SV.lendCs σ.h cs=some O->aN w c.M0 O us
 |[],us,F,O,Q,h,hl=>by
  simp only[SV.lendCs,SN] at hl;subst hl
  simp only[ar] at h;unfold aN;exact h.1
 |x::cs,us,F,O,Q,h,hl=>by
  simp only[SV.lendCs] at hl
  split at hl
  ·rename_i y ys hy k
   simp only[SN] at hl;subst hl
   simp only[ar] at h
   obtain⟨u,g,z,I,rfl,rfl,h1,h2⟩:=h
   unfold aN
   exact⟨u,g,rfl,KU hr (fun b hb=>Q b (by simp[hb])) h1 hy,y6 hr (fun b hb=>Q b (by simp[hb])) h2 k⟩
  ·cases hl
theorem Mf (hr:cH c σ κ φ a w) {cs:List SV} {O:List DV} (hv:σ.h id= .box cs) (hl:SV.lendCs σ.h cs=some O):ba w c.M0 (.ptr O) (κ id):=by
 have r2:=hr.chunks id
 rw[hv] at r2
 obtain⟨b,T,vs,G,h1,h2,E,h4,K⟩:=r2
 have hn:∀ b'∈b::G,¬ c.M0 b':=fun b' h6=>yk hr (id:=id) (by rw[K];exact h6)
 unfold ba
 exact⟨b,0,h1,hn b oS,(Ty.1 h2).1,b4.of_row h2 (y6 hr (fun b' h6=>hn b' (by simp[h6])) h4 hl) E oS⟩
mutual
theorem HA (hr:cH c σ κ φ a w):∀ (x:SV) (v:Value) (d:DV),ah w (own c φ) κ x v->SV.lend σ.h x=some d->ba w c.M0 d v
 | .vec id,v,d,h,hl=>by
  simp only[SV.lend] at hl
  split at hl
  ·rename_i e sz rows hv
   split at hl
   ·rename_i O r8
    simp only[SN] at hl;subst hl
    simp only[ah] at h;subst h
    have r2:=hr.chunks id
    rw[hv] at r2
    exact Gn (M:=own c φ) (fun b hb=> .inl hb) (fun b hb=>yk hr hb) r2 r8
   ·cases hl
  ·cases hl
 | .agg cs,v,d,h,hl=>by
  simp only[SV.lend] at hl
  split at hl
  ·rename_i xs T
   simp only[SN] at hl;subst hl
   simp only[ah] at h
   obtain⟨vs,h1,h2,E⟩:=h
   unfold ba
   exact⟨vs,h1,h2,A5 hr cs vs xs E T⟩
  ·cases hl
 | .d x,v,d,h,hl=>(ah.toDV (.d x) v d h (by simpa only[SV.lend,SV.toDV] using hl)).ext (lA.shrink fun b hb=> .inl hb)
 | .nils,v,d,h,hl=>(ah.toDV .nils v d h (by simpa only[SV.lend,SV.toDV] using hl)).ext (lA.shrink fun b hb=> .inl hb)
 | .lit sz n cs,v,d,h,hl=>(ah.toDV (.lit sz n cs) v d h (by simpa only[SV.lend] using hl)).ext (lA.shrink fun b hb=> .inl hb)
 | .tup cs,v,d,h,hl=>(ah.toDV (.tup cs) v d h (by simpa only[SV.lend] using hl)).ext (lA.shrink fun b hb=> .inl hb)
 | .ref id off,v,d,h,hl=>by
  simp only[SV.lend] at hl
  split at hl
  ·rename_i h0
   subst h0
   split at hl
   ·rename_i cs hv
    split at hl
    ·rename_i O r8
     simp only[SN] at hl;subst hl
     simp only[ah] at h
     obtain⟨b,hk,rfl⟩:=h
     rw[<-hk]
     exact Mf hr hv r8
    ·cases hl
   ·cases hl
  ·cases hl
 | .vref _ _ _ _,v,d,h,hl=>by simp[SV.lend] at hl
 | .mp _,v,d,h,hl=>by simp[SV.lend] at hl
 | .clo _ _,v,d,h,hl=>by simp[SV.lend] at hl
 | .own _ _,v,d,h,hl=>by simp[SV.lend] at hl
theorem A5 (hr:cH c σ κ φ a w):∀ (cs:List SV) (vs:List Value) (O:List DV),an w (own c φ) κ cs vs->SV.lends σ.h cs=some O->aN w c.M0 O vs
 |[],vs,O,h,hl=>by
  simp only[SV.lends,SN] at hl;subst hl
  simp only[an] at h;unfold aN;exact h
 |x::cs,vs,O,h,hl=>by
  simp only[SV.lends] at hl
  split at hl
  ·rename_i y ys hy k
   simp only[SN] at hl;subst hl
   simp only[an] at h
   obtain⟨u,us,h1,h2,E⟩:=h
   unfold aN
   exact⟨u,us,h1,HA hr x u y h2 hy,A5 hr cs us ys E k⟩
  ·cases hl
end
end
def kd {α:Type}:List (Nat×α)->(Nat->α)->Nat->α
 |[],f=>f
 |(i,v)::L,f=>aD (kd L f) i v
inductive HandL (h:Nat->Ch):List SV->List SV->List SV->List (Nat×Ch)->Prop
 |nil:HandL h [] [] [] []
 |data {x:SV} {d:DV} {xs ins outs:List SV} {L:List (Nat×Ch)} (hx:x.toDV=some d) (hl:HandL h xs ins outs L):HandL h (x::xs) (.d d::ins) (.d d::outs) L
 |nils {e:Nat} {ms:List cO} {xs ins outs:List SV} {L:List (Nat×Ch)} (hl:HandL h xs ins outs L):HandL h (.nils::xs) (.own (.sl e ms) (.slice [])::ins) (.d .any::outs) L
 |move {id:Nat} {m:cO} {d:DV} {ch:Ch} {mk:Nat->SV} {xs ins outs:List SV} {L:List (Nat×Ch)} (ho:cL m d=some (ch,mk)) (hs:eQ m d) (hh:h id=ch) (hn:id∉L.map Prod.fst) (hl:HandL h xs ins outs L):
   HandL h (mk id::xs) (.own m d::ins) (.d .any::outs) ((id,.dead)::L)
 |ptr {id:Nat} {m:cO} {d d':DV} {ch ch':Ch} {mk mk':Nat->SV} {xs ins outs:List SV} {L:List (Nat×Ch)} (ho:cL m d=some (ch,mk)) (hs:eQ m d) (ho':cL m d'=some (ch',mk')) (hh:h id=ch) (hn:id∉L.map Prod.fst) (hl:HandL h xs ins outs L):
   HandL h (mk id::xs) (.own m d::ins) (.own m d'::outs) ((id,ch')::L)
def iJ (φ:Nat->List Nat):List (Nat×Ch)->List Nat
 |[]=>[]
 |(id,_)::L=>φ id++iJ φ L
theorem cp {φ:Nat->List Nat} {b:Nat}:∀ {L:List (Nat×Ch)},b∈iJ φ L↔∃ id∈L.map Prod.fst,b∈φ id
 |[]=>by simp[iJ]
 |(i,ch)::L=>by simp only[iJ,Ta,cp (L:=L)];simp
theorem nT {α:Type} {j:Nat} {f:Nat->α}:∀ {L:List (Nat×α)},j∉L.map Prod.fst->kd L f j=f j
 |[],_=>rfl
 |(i,v)::L,h=>by
  simp only[S5,S9,not_or] at h
  rw[kd,bv _ _ _ _ h.1,nT h.2]
section
variable {c:Cx} {σ:St} {κ:Nat->Value} {φ:Nat->List Nat} {a:Act} {w:World}
theorem y7 (hr:cH c σ κ φ a w) (h:HandL σ.h xs ins outs L):(iJ φ L).Nodup/\(L.map Prod.fst).Nodup:=by
 have key:∀ (id:Nat) (L:List (Nat×Ch)),id∉L.map Prod.fst->(iJ φ L).Nodup/\(L.map Prod.fst).Nodup->∀ ch,(iJ φ ((id,ch)::L)).Nodup/\(((id,ch)::L).map Prod.fst).Nodup:=fun id L hn ih ch=>by
  refine⟨TC.2 ⟨hr.nod id,ih.1,fun x hx y hy e=> ?_⟩,by simpa using⟨by simpa using hn,ih.2⟩⟩
  subst e
  obtain⟨j,hj,Q⟩:=cp.1 hy
  exact hr.sep id j x (fun e=>hn (e▸hj)) hx Q
 induction h with
 |nil=>simp[iJ]
 |data _ _ ih=>exact ih
 |nils _ ih=>exact ih
 |move _ _ _ hn _ ih=>exact key _ _ hn ih _
 |ptr _ _ _ _ hn _ ih=>exact key _ _ hn ih _
theorem Mg (hr:cH c σ κ φ a w) (hM:∀ b,M b->own c φ b) (h:HandL σ.h xs ins outs L):∀ {vs:List Value},an w (own c φ) κ xs vs->ar w M κ0 ins vs (iJ φ L):=by
 have N:lA w (own c φ) w M:=lA.shrink hM
 have key:∀ {id:Nat} {m:cO} {d:DV} {ch:Ch} {mk:Nat->SV} {u:Value},cL m d=some (ch,mk)->eQ m d->σ.h id=ch->ah w (own c φ) κ (mk id) u->aQ w M κ0 (.own m d) u (φ id):=fun{id m d ch mk u} ho hs hh hu=>by
  have r2:=hr.chunks id
  rw[hh] at r2
  obtain⟨hk,_⟩:=GF (φ:=φ) ho (aQ.of_S _ _ hu) r2
  simp only[aQ]
  exact eR.ext N _ _ _ _ (fun _ _=>rfl) ((sd hs ho hk).1 r2)
 induction h with
 |nil=>intro vs hx;simp only[an] at hx;simp[ar,iJ,hx]
 |data hx _ ih=>
  intro vs T
  simp only[an] at T
  obtain⟨u,us,rfl,h1,h2⟩:=T
  simp only[ar]
  exact⟨u,us,[],_,rfl,by simp,by unfold aQ ah;exact⟨rfl,(ah.toDV _ _ _ h1 hx).ext N⟩,ih h2⟩
 |nils _ ih=>
  intro vs T
  simp only[an] at T
  obtain⟨u,us,rfl,h1,h2⟩:=T
  simp only[ah] at h1
  simp only[ar]
  refine⟨u,us,[],_,rfl,by simp, ?_,ih h2⟩
  simp only[aQ,eR]
  subst h1
  exact⟨[],[],[],rfl,World.ownsRow_nil w 0 _ _,by simp,by simp,by simp[fz],by simp[hP,yj]⟩
 |move ho hs hh _ _ ih=>
  intro vs T
  simp only[an] at T
  obtain⟨u,us,rfl,h1,h2⟩:=T
  simp only[ar]
  exact⟨u,us,_,_,rfl,rfl,key ho hs hh h1,ih h2⟩
 |ptr ho hs _ hh _ _ ih=>
  intro vs T
  simp only[an] at T
  obtain⟨u,us,rfl,h1,h2⟩:=T
  simp only[ar]
  exact⟨u,us,_,_,rfl,rfl,key ho hs hh h1,ih h2⟩
theorem Fq (hr:cH c σ κ φ a w) (h:HandL σ.h xs ins outs L):∀ {vs:List Value} {F:List Nat},an w (own c φ) κ xs vs->ar w' M κ0 outs vs F->
  ∃ g:List (Nat×List Nat),g.map Prod.fst=L.map Prod.fst/\(∀ b,b∈F↔∃ p∈g,b∈p.2)/\(F.Nodup->(∀ p∈g,p.2.Nodup)/\∀ p∈g,∀ q∈g,∀ b,p.1≠q.1->b∈p.2->b∉q.2)/\
   (∀ j,j∈L.map Prod.fst->kK w' M κ j (kd L σ.h j) (kd g φ j))/\∀ p∈g,kd g φ p.1=p.2:=by
 have key:∀ {id:Nat} {L:List (Nat×Ch)} {ch':Ch} {z I:List Nat} {g:List (Nat×List Nat)},id∉L.map Prod.fst->kK w' M κ id ch' z->g.map Prod.fst=L.map Prod.fst->(∀ b,b∈I↔∃ p∈g,b∈p.2)->
   (I.Nodup->(∀ p∈g,p.2.Nodup)/\∀ p∈g,∀ q∈g,∀ b,p.1≠q.1->b∈p.2->b∉q.2)->(∀ j,j∈L.map Prod.fst->kK w' M κ j (kd L σ.h j) (kd g φ j))->(∀ p∈g,kd g φ p.1=p.2)->
   ∃ i:List (Nat×List Nat),i.map Prod.fst=((id,ch')::L).map Prod.fst/\(∀ b,b∈z++I↔∃ p∈i,b∈p.2)/\((z++I).Nodup->(∀ p∈i,p.2.Nodup)/\∀ p∈i,∀ q∈i,∀ b,p.1≠q.1->b∈p.2->b∉q.2)/\
    (∀ j,j∈((id,ch')::L).map Prod.fst->kK w' M κ j (kd ((id,ch')::L) σ.h j) (kd i φ j))/\∀ p∈i,kd i φ p.1=p.2:=fun{id L ch' z I g} hn l h1 h2 E h4 h5=>by
  have A:∀ p∈g,p.1≠id:=fun p hp e=>hn (by rw[<-h1,<-e];exact List.mem_map_of_mem hp)
  refine⟨(id,z)::g,by simp[h1],fun b=> ?_,fun r4=> ?_,fun j hj=> ?_,fun p hp=> ?_⟩
  ·simp[h2 b]
  ·obtain⟨U,n2,C⟩:=TC.1 r4
   obtain⟨k1,k2⟩:=E n2
   refine⟨fun p hp=> ?_,fun p hp q hq b k hb=> ?_⟩
   ·rcases S9.1 hp with rfl|hp
    ·exact U
    ·exact k1 p hp
   ·rcases S9.1 hp with rfl|hp
    ·rcases S9.1 hq with rfl|hq
     ·exact absurd rfl k
     ·exact fun h6=>C b hb b ((h2 b).2 ⟨q,hq,h6⟩) rfl
    ·rcases S9.1 hq with rfl|hq
     ·exact fun h6=>C b h6 b ((h2 b).2 ⟨p,hp,hb⟩) rfl
     ·exact k2 p hp q hq b k hb
  ·simp only[kd]
   by_cases f:j=id
   ·subst f;rw[au,au];exact l
   ·rw[bv _ _ _ _ f,bv _ _ _ _ f]
    simp only[S5,S9,f,false_or] at hj
    exact h4 j hj
  ·simp only[kd]
   rcases S9.1 hp with rfl|hp
   ·rw[au]
   ·rw[bv _ _ _ _ (A p hp)];exact h5 p hp
 induction h with
 |nil=>
  intro vs F _ Q
  simp only[ar] at Q
  exact⟨[],rfl,by simp[Q.2],fun _=>by simp,by simp,by simp⟩
 |data hx _ ih=>
  intro vs F T Q
  simp only[an] at T
  obtain⟨u,us,rfl,h1,h2⟩:=T
  simp only[ar,TA] at Q
  obtain⟨_,_,z,I,⟨rfl,rfl⟩,rfl,k1,k2⟩:=Q
  simp only[aQ] at k1
  obtain⟨rfl,_⟩:=k1
  simpa using ih h2 k2
 |nils _ ih=>
  intro vs F T Q
  simp only[an] at T
  obtain⟨u,us,rfl,h1,h2⟩:=T
  simp only[ar,TA] at Q
  obtain⟨_,_,z,I,⟨rfl,rfl⟩,rfl,k1,k2⟩:=Q
  simp only[aQ] at k1
  obtain⟨rfl,_⟩:=k1
  simpa using ih h2 k2
 |move _ _ _ hn _ ih=>
  intro vs F T Q
  simp only[an] at T
  obtain⟨u,us,rfl,h1,h2⟩:=T
  simp only[ar,TA] at Q
  obtain⟨_,_,z,I,⟨rfl,rfl⟩,rfl,k1,k2⟩:=Q
  simp only[aQ] at k1
  obtain⟨rfl,_⟩:=k1
  obtain⟨g,g1,g2,g3,g4,g5⟩:=ih h2 k2
  exact key hn (ch':= .dead) rfl g1 g2 g3 g4 g5
 | @ptr id m d d' ch ch' mk mk' _ _ _ _ ho hs ho' hh hn _ ih=>
  intro vs F T Q
  simp only[an] at T
  obtain⟨u,us,rfl,h1,h2⟩:=T
  simp only[ar,TA] at Q
  obtain⟨_,_,z,I,⟨rfl,rfl⟩,rfl,k1,k2⟩:=Q
  have r2:=hr.chunks id
  rw[hh] at r2
  obtain⟨hk,_⟩:=GF (φ:=φ) ho (aQ.of_S _ _ h1) r2
  simp only[aQ] at k1
  obtain⟨g,g1,g2,g3,g4,g5⟩:=ih h2 k2
  exact key hn ((sd k1.shape ho' hk).2 k1) g1 g2 g3 g4 g5
theorem cH.called (hr:cH c σ κ φ a w) (h:HandL σ.h xs ins outs L) (T:an w (own c φ) κ xs vs) (r:ar w' (fun b=>(own c φ b/\b∉iJ φ L)\/b∈z++I) κ0 outs vs z) (r4:(z++I).Nodup) (n:∀ b∈z++I,(b∈iJ φ L\/w.heap.size<=b)/\b<w'.heap.size) (k:AK w.heap.size (· ∈iJ φ L) w w'):
  ∃ r3,cH c ⟨σ.s,kd L σ.h⟩ κ r3 a w'/\(∀ b,own c r3 b->(own c φ b/\b∉iJ φ L)\/b∈z++I)/\∀ id b,b∈I->b∉r3 id:=by
 obtain⟨U,n2,C⟩:=TC.1 r4
 obtain⟨g,g1,g2,g3,g4,g5⟩:=Fq hr h T r
 obtain⟨B,D⟩:=g3 U
 obtain⟨_,y⟩:=y7 hr h
 have f:∀ j b,b∈kd g φ j->(j∈L.map Prod.fst/\b∈z/\∃ p∈g,p.1=j/\b∈p.2)\/(j∉L.map Prod.fst/\b∈φ j):=fun j b hb=>by
  by_cases hj:j∈L.map Prod.fst
  ·have F:=hj
   rw[<-g1] at hj
   obtain⟨p,hp,rfl⟩:=Tu.1 hj
   rw[g5 p hp] at hb
   exact .inl ⟨F,(g2 b).2 ⟨p,hp,hb⟩,p,hp,rfl,hb⟩
  ·rw[nT (by rw[g1];exact hj)] at hb
   exact .inr ⟨hj,hb⟩
 have d:∀ b,own c (kd g φ) b->(own c φ b/\b∉iJ φ L)\/b∈z++I:=fun b hb=>by
  rcases hb with hb|⟨j,hb⟩
  ·refine .inl ⟨.inl hb,fun hf=> ?_⟩
   obtain⟨id,_,hi⟩:=cp.1 hf
   exact yk hr hi hb
  ·rcases f j b hb with⟨_,h1,_⟩|⟨hj,h1⟩
   ·exact .inr (by simp[h1])
   ·refine .inl ⟨.inr ⟨j,h1⟩,fun hf=> ?_⟩
    obtain⟨id,hid,hi⟩:=cp.1 hf
    exact hr.sep j id b (fun e=>hj (e▸hid)) h1 hi
 have N:lA w (own c φ) w' (own c (kd g φ)):=⟨k.size,fun b hb Z=>⟨k.block b hb fun hf=>by
   obtain⟨id,_,hi⟩:=cp.1 hf
   exact Z (.inr ⟨id,hi⟩),fun ho=>by
   rcases d b ho with h|h
   ·exact Z h.1
   ·rcases(n b h).1 with h|h
    ·obtain⟨id,_,hi⟩:=cp.1 h
     exact Z (.inr ⟨id,hi⟩)
    ·omega⟩⟩
 have m:∀ j,j∉L.map Prod.fst->∀ b∈φ j,w'.heap[b]?=w.heap[b]?:=fun j hj b hb=>k.block b (hr.mine j b hb).1 fun hf=>by
  obtain⟨id,hid,hi⟩:=cp.1 hf
  exact hr.sep j id b (fun e=>hj (e▸hid)) hb hi
 refine⟨kd g φ,⟨?_,TT hr.size k.size,hr.m0,hr.ntmps,hr.defers,hr.kok,fun i hi=>ah.ext N _ _ (hr.slots i hi),fun i v hv=>ah.ext N _ _ (hr.ghost i v hv),fun j=> ?_,fun j b hb=> ?_,fun j=> ?_,fun i j b V hi hj=> ?_⟩,d,fun id b hb l=> ?_⟩
 ·refine hr.chg.trans ⟨k.os,k.tape,k.output,k.size,fun b hb E=>k.block b (Tt hb hr.size) fun hf=> ?_⟩
  obtain⟨id,_,hi⟩:=cp.1 hf
  rcases(hr.mine id b hi).2 with h|h
  ·omega
  ·exact E h
 ·by_cases hj:j∈L.map Prod.fst
  ·exact(g4 j hj).ext (lA.shrink d) (fun _ _=>rfl)
  ·dsimp only
   rw[nT hj,nT (by rw[g1];exact hj)]
   exact(hr.chunks j).ext N (m j hj)
 ·rcases f j b hb with⟨_,h1,_⟩|⟨hj,h1⟩
  ·have:=n b (by simp[h1])
   refine⟨this.2, ?_⟩
   rcases this.1 with h|h
   ·obtain⟨id,_,hi⟩:=cp.1 h
    exact(hr.mine id b hi).2
   ·exact .inl (TT hr.size h)
  ·exact⟨Tt (hr.mine j b h1).1 k.size,(hr.mine j b h1).2⟩
 ·by_cases hj:j∈L.map Prod.fst
  ·rw[<-g1] at hj
   obtain⟨p,hp,rfl⟩:=Tu.1 hj
   rw[g5 p hp];exact B p hp
  ·rw[nT (by rw[g1];exact hj)];exact hr.nod j
 ·rcases f i b hi with⟨_,h1,p,hp,rfl,H⟩|⟨h5,h1⟩
  ·rcases f j b hj with⟨_,_,q,hq,rfl,o⟩|⟨F,h2⟩
   ·exact D p hp q hq b V H o
   ·rcases(n b (by simp[h1])).1 with h|h
    ·obtain⟨id,hid,hi⟩:=cp.1 h
     exact hr.sep j id b (fun e=>F (e▸hid)) h2 hi
    ·have:=(hr.mine j b h2).1;omega
  ·rcases f j b hj with⟨_,h2,_⟩|⟨F,h2⟩
   ·rcases(n b (by simp[h2])).1 with h|h
    ·obtain⟨id,hid,hi⟩:=cp.1 h
     exact hr.sep i id b (fun e=>h5 (e▸hid)) h1 hi
    ·have:=(hr.mine i b h1).1;omega
   ·exact hr.sep i j b V h1 h2
 ·rcases f id b l with⟨_,h1,_⟩|⟨F,h2⟩
  ·exact C b h1 b hb rfl
  ·rcases(n b (by simp[hb])).1 with h|h
   ·obtain⟨i,hid,hi⟩:=cp.1 h
    exact hr.sep id i b (fun e=>F (e▸hid)) h2 hi
   ·have:=(hr.mine id b h2).1;omega
theorem cH.called2 (hr:cH c σ κ φ a w) (h:HandL σ.h xs ins outs L) (T:an w (own c φ) κ xs vs) (r:ar w' (fun b=>(own c φ b/\b∉iJ φ L)\/b∈z++I) κ0 outs vs z) (r4:(z++I).Nodup) (n:∀ b∈z++I,(b∈iJ φ L\/w.heap.size<=b)/\b<w'.heap.size) (k:AK w.heap.size (· ∈iJ φ L) w w') {dst:Nat} {ch:Ch} (s:u.oneCell'=true) (h3:kK w' (fun b=>(own c φ b/\b∉iJ φ L)\/b∈z++I) (aD κ dst u) dst ch I):
  ∃ r3,cH c ⟨eC dst .any σ.s,aD (hT dst .any (kd L σ.h)) dst ch⟩ (aD κ dst u) r3 a w'/\(∀ b,own c r3 b->(own c φ b/\b∉iJ φ L)\/b∈z++I):=by
 obtain⟨U,n2,C⟩:=TC.1 r4
 obtain⟨g,g1,g2,g3,g4,g5⟩:=Fq hr h T r
 obtain⟨B,D⟩:=g3 U
 obtain⟨_,y⟩:=y7 hr h
 have f:∀ j b,b∈kd g φ j->(j∈L.map Prod.fst/\b∈z/\∃ p∈g,p.1=j/\b∈p.2)\/(j∉L.map Prod.fst/\b∈φ j):=fun j b hb=>by
  by_cases hj:j∈L.map Prod.fst
  ·have F:=hj
   rw[<-g1] at hj
   obtain⟨p,hp,rfl⟩:=Tu.1 hj
   rw[g5 p hp] at hb
   exact .inl ⟨F,(g2 b).2 ⟨p,hp,hb⟩,p,hp,rfl,hb⟩
  ·rw[nT (by rw[g1];exact hj)] at hb
   exact .inr ⟨hj,hb⟩
 have A:∀ b,own c (kd g φ) b->(own c φ b/\b∉iJ φ L)\/b∈z++I:=fun b hb=>by
  rcases hb with hb|⟨j,hb⟩
  ·refine .inl ⟨.inl hb,fun hf=> ?_⟩
   obtain⟨id,_,hi⟩:=cp.1 hf
   exact yk hr hi hb
  ·rcases f j b hb with⟨_,h1,_⟩|⟨hj,h1⟩
   ·exact .inr (by simp[h1])
   ·refine .inl ⟨.inr ⟨j,h1⟩,fun hf=> ?_⟩
    obtain⟨id,hid,hi⟩:=cp.1 hf
    exact hr.sep j id b (fun e=>hj (e▸hid)) h1 hi
 have r1:∀ j b,b∈aD (kd g φ) dst I j->(j=dst/\b∈I)\/(j≠dst/\b∈kd g φ j):=fun j b hb=>by
  by_cases hj:j=dst
  ·subst hj;rw[au] at hb;exact .inl ⟨rfl,hb⟩
  ·rw[bv _ _ _ _ hj] at hb;exact .inr ⟨hj,hb⟩
 have d:∀ b,own c (aD (kd g φ) dst I) b->(own c φ b/\b∉iJ φ L)\/b∈z++I:=fun b hb=>by
  rcases hb with hb|⟨j,hb⟩
  ·exact A b (.inl hb)
  ·rcases r1 j b hb with⟨_,h1⟩|⟨_,h1⟩
   ·exact .inr (by simp[h1])
   ·exact A b (.inr ⟨j,h1⟩)
 have N:lA w (own c φ) w' (own c (aD (kd g φ) dst I)):=⟨k.size,fun b hb Z=>⟨k.block b hb fun hf=>by
   obtain⟨id,_,hi⟩:=cp.1 hf
   exact Z (.inr ⟨id,hi⟩),fun ho=>by
   rcases d b ho with h|h
   ·exact Z h.1
   ·rcases(n b h).1 with h|h
    ·obtain⟨id,_,hi⟩:=cp.1 h
     exact Z (.inr ⟨id,hi⟩)
    ·omega⟩⟩
 have m:∀ j,j∉L.map Prod.fst->∀ b∈φ j,w'.heap[b]?=w.heap[b]?:=fun j hj b hb=>k.block b (hr.mine j b hb).1 fun hf=>by
  obtain⟨id,hid,hi⟩:=cp.1 hf
  exact hr.sep j id b (fun e=>hj (e▸hid)) hb hi
 have t:∀ (w:World) (M:Nat->Prop) (v:Value),ba w M .any v:=fun w M v=>by unfold ba;trivial
 have J:∀ j b,b∈I->b∈kd g φ j->False:=fun j b hb l=>by
  rcases f j b l with⟨_,h1,_⟩|⟨F,h2⟩
  ·exact C b h1 b hb rfl
  ·rcases(n b (by simp[hb])).1 with h|h
   ·obtain⟨i,hid,hi⟩:=cp.1 h
    exact hr.sep j i b (fun e=>F (e▸hid)) h2 hi
   ·have:=(hr.mine j b h2).1;omega
 refine⟨aD (kd g φ) dst I,⟨?_,TT hr.size k.size,hr.m0,hr.ntmps,hr.defers,fun j=> ?_,fun i hi=>gz N (t _ _ _) _ _ (hr.slots i hi),fun i v hv=>gz N (t _ _ _) _ _ (hr.ghost i v hv),fun j=> ?_,fun j b hb=> ?_,fun j=> ?_,fun i j b V hi hj=> ?_⟩,d⟩
 ·refine hr.chg.trans ⟨k.os,k.tape,k.output,k.size,fun b hb E=>k.block b (Tt hb hr.size) fun hf=> ?_⟩
  obtain⟨id,_,hi⟩:=cp.1 hf
  rcases(hr.mine id b hi).2 with h|h
  ·omega
  ·exact E h
 ·by_cases hj:j=dst
  ·subst hj;rw[au];exact s
  ·rw[bv _ _ _ _ hj];exact hr.kok j
 ·dsimp only
  by_cases x:j=dst
  ·subst x
   rw[au,au]
   exact h3.ext (lA.shrink d) (fun _ _=>rfl)
  ·rw[bv _ _ _ _ x,bv _ _ _ _ x]
   by_cases hj:j∈L.map Prod.fst
   ·exact zW (lA.shrink d) (t _ _ _) x (fun _ _=>rfl) (g4 j hj)
   ·have:=zW (v:=u) N (t _ _ (κ dst)) x (m j hj) (hr.chunks j)
    rw[nT (by rw[g1];exact hj)]
    simp only[hT]
    rw[nT hj]
    exact this
 ·rcases r1 j b hb with⟨_,h1⟩|⟨_,hb⟩
  ·have:=n b (by simp[h1])
   refine⟨this.2, ?_⟩
   rcases this.1 with h|h
   ·obtain⟨id,_,hi⟩:=cp.1 h
    exact(hr.mine id b hi).2
   ·exact .inl (TT hr.size h)
  ·rcases f j b hb with⟨_,h1,_⟩|⟨hj,h1⟩
   ·have:=n b (by simp[h1])
    refine⟨this.2, ?_⟩
    rcases this.1 with h|h
    ·obtain⟨id,_,hi⟩:=cp.1 h
     exact(hr.mine id b hi).2
    ·exact .inl (TT hr.size h)
   ·exact⟨Tt (hr.mine j b h1).1 k.size,(hr.mine j b h1).2⟩
 ·by_cases x:j=dst
  ·subst x;rw[au];exact n2
  ·rw[bv _ _ _ _ x]
   by_cases hj:j∈L.map Prod.fst
   ·rw[<-g1] at hj
    obtain⟨p,hp,rfl⟩:=Tu.1 hj
    rw[g5 p hp];exact B p hp
   ·rw[nT (by rw[g1];exact hj)];exact hr.nod j
 ·rcases r1 i b hi with⟨O,r0⟩|⟨_,hi⟩
  ·rcases r1 j b hj with⟨K,G⟩|⟨_,hj⟩
   ·exact V (O.trans K.symm)
   ·exact J j b r0 hj
  ·rcases r1 j b hj with⟨K,G⟩|⟨_,hj⟩
   ·exact J i b G hi
   ·rcases f i b hi with⟨_,h1,p,hp,rfl,H⟩|⟨h5,h1⟩
    ·rcases f j b hj with⟨_,_,q,hq,rfl,o⟩|⟨F,h2⟩
     ·exact D p hp q hq b V H o
     ·rcases(n b (by simp[h1])).1 with h|h
      ·obtain⟨id,hid,hi⟩:=cp.1 h
       exact hr.sep j id b (fun e=>F (e▸hid)) h2 hi
      ·have:=(hr.mine j b h2).1;omega
    ·rcases f j b hj with⟨_,h2,_⟩|⟨F,h2⟩
     ·rcases(n b (by simp[h2])).1 with h|h
      ·obtain⟨id,hid,hi⟩:=cp.1 h
       exact hr.sep i id b (fun e=>h5 (e▸hid)) h1 hi
      ·have:=(hr.mine i b h1).1;omega
     ·exact hr.sep i j b V h1 h2
end
