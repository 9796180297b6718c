/-
  My text.
-/
import Derived.Test.YteaolfcegaidpaaGreatDoorSYEngO
namespace Go.Proofs.YteaolfcegaidpaaGreatDoor
set_option linter.unusedSimpArgs false
set_option linter.unusedVariables false
open Go.RowKit
def aa (P:Program) (f:FuncId) (args:List DV) (res:DV):Prop:=
 o_ P f=true/\∀ (w:World) (M:Nat->Prop) (vs:List Value),(∀ b,M b->b<w.heap.size)->aI w M args vs->wY w->
  Calls P f vs.toArray w fun e w'=>∃ v,e= .returned v/\aQ w' M res v/\Below w.heap.size w w'
def κ0:Nat->Value:=fun _=> .pointer none
def cF (P:Program) (f:FuncId) (args:List SV) (res:SV) (outs:List SV):Prop:=
 o_ P f=true/\∀ (w:World) (M:Nat->Prop) (vs:List Value) (F:List Nat),(∀ b,M b->b<w.heap.size/\b∉F)->(∀ b∈F,b<w.heap.size)->F.Nodup->am w (fun b=>M b\/b∈F) κ0 args vs F->wY w->EB (· ∈F)->
  Calls P f vs.toArray w fun e w'=>∃ v F1 F2,e= .returned v/\am w' (fun b=>M b\/b∈F1++F2) κ0 outs vs F1/\aK w' (fun b=>M b\/b∈F1++F2) κ0 res v F2/\(F1++F2).Nodup/\
   (∀ b∈F1++F2,(b∈F\/w.heap.size<=b)/\b<w'.heap.size)/\yZ w.heap.size (· ∈F) w w'
mutual
def SV.closed:SV->Bool
 | .own _ _=>true
 | .agg cs=>SV.closeds cs
 | .tup cs=>SV.closeds cs
 | .d _=>true
 | .nils=>true
 | .lit _ _ cs=>SV.closeds cs
 | .ref _ _=>false
 | .vec _=>false
 | .vref _ _ _ _=>false
 | .mp _=>false
 | .clo _ _=>false
def SV.closeds:List SV->Bool
 |[]=>true
 |c::cs=>SV.closed c&&SV.closeds cs
end
section
variable {w:World} {M:Nat->Prop} {κ κ':Nat->Value}
mutual
theorem ae.kappa:∀ (x:SV) (u:Value),x.closed=true->ae w M κ x u->ae w M κ' x u
 | .own _ _,u,_,h=>by simp only[ae] at h
 | .agg cs,u,hc,h=>by
  simp only[ae] at *
  obtain⟨vs,h1,h2,h3⟩:=h
  exact⟨vs,h1,h2,ai.kappa cs vs (by simpa[SV.closed] using hc) h3⟩
 | .tup cs,u,hc,h=>by
  simp only[ae] at *
  obtain⟨vs,h1,h3⟩:=h
  exact⟨vs,h1,ai.kappa cs vs (by simpa[SV.closed] using hc) h3⟩
 | .d _,u,_,h=>by simp only[ae] at *;exact h
 | .nils,u,_,h=>by simp only[ae] at *;exact h
 | .lit _ _ cs,u,hc,h=>by
  simp only[ae] at *
  obtain⟨b,vs,h1,h2,h3,h4,h5,h6,h7⟩:=h
  exact⟨b,vs,h1,h2,h3,h4,h5,h6,ai.kappa cs vs (by simpa[SV.closed] using hc) h7⟩
 | .ref _ _,u,hc,_=>by simp[SV.closed] at hc
 | .vec _,u,hc,_=>by simp[SV.closed] at hc
 | .vref _ _ _ _,u,hc,_=>by simp[SV.closed] at hc
 | .mp _,u,hc,_=>by simp[SV.closed] at hc
 | .clo _ _,u,hc,_=>by simp[SV.closed] at hc
theorem ai.kappa:∀ (cs:List SV) (us:List Value),SV.closeds cs=true->ai w M κ cs us->ai w M κ' cs us
 |[],us,_,h=>by simp only[ai] at *;exact h
 |c::cs,us,hc,h=>by
  simp only[ai,SV.closeds,Oz] at *
  obtain⟨u,us',h1,h2,h3⟩:=h
  exact⟨u,us',h1,ae.kappa c u hc.1 h2,ai.kappa cs us' hc.2 h3⟩
end
end
def SV.lendC (h:Nat->Ch):SV->Option DV
 | .own m v=>if m.plain then some v else none
 | .d v=>some v
 | .nils=>some (.slice [])
 | .lit sz n cs=>SV.toDV (.lit sz n cs)
 | .vec id=>match h id with| .vec _ _ rows=>(match SV.frzR rows with|some ds=>some (.slice ds)|none=>none)|_=>none
 |_=>none
def SV.lendCs (h:Nat->Ch):List SV->Option (List DV)
 |[]=>some []
 |c::cs=>match SV.lendC h c,SV.lendCs h cs with|some x,some xs=>some (x::xs)|_,_=>none
mutual
def SV.lend (h:Nat->Ch):SV->Option DV
 | .vec id=>match h id with| .vec _ _ rows=>(match SV.frzR rows with|some ds=>some (.slice ds)|none=>none)|_=>none
 | .agg cs=>match SV.lends h cs with|some xs=>some (.agg xs)|none=>none
 | .d v=>some v
 | .nils=>some (.slice [])
 | .lit sz n cs=>SV.toDV (.lit sz n cs)
 | .tup cs=>SV.toDV (.tup cs)
 | .ref id off=>if off=0 then(match h id with| .box cs=>(match SV.lendCs h cs with|some ds=>some (.ptr ds)|none=>none)|_=>none) else none
 | .vref _ _ _ _=>none
 | .mp _=>none
 | .clo _ _=>none
 | .own _ _=>none
def SV.lends (h:Nat->Ch):List SV->Option (List DV)
 |[]=>some []
 |c::cs=>match SV.lend h c,SV.lends h cs with|some x,some xs=>some (x::xs)|_,_=>none
end
mutual
def DV.flat:DV->Bool
 | .int _ _=>true
 | .bool _=>true
 | .str _=>true
 | .raw _=>true
 | .err=>true
 | .any=>true
 | .agg cs=>DV.flats cs
 | .tup cs=>DV.flats cs
 | .slice _=>false
 | .ptr _=>false
 | .fn _ _=>false
 | .map _ _=>false
def DV.flats:List DV->Bool
 |[]=>true
 |c::cs=>DV.flat c&&DV.flats cs
end
section
variable {w w':World} {M M':Nat->Prop}
mutual
theorem aQ.flat:∀ (d:DV) (v:Value),d.flat=true->aQ w M d v->aQ w' M' d v
 | .int _ _,v,_,h=>by unfold aQ at *;exact h
 | .bool _,v,_,h=>by unfold aQ at *;exact h
 | .str _,v,_,h=>by unfold aQ at *;exact h
 | .raw _,v,_,h=>by unfold aQ at *;exact h
 | .err,v,_,h=>by unfold aQ at *;exact h
 | .any,v,_,h=>by unfold aQ at *;exact h
 | .agg cs,v,hf,h=>by
  unfold aQ at *
  obtain⟨vs,h1,h2,h3⟩:=h
  exact⟨vs,h1,h2,aI.flat cs vs (by simpa[DV.flat] using hf) h3⟩
 | .tup cs,v,hf,h=>by
  unfold aQ at *
  obtain⟨vs,h1,h3⟩:=h
  exact⟨vs,h1,aI.flat cs vs (by simpa[DV.flat] using hf) h3⟩
 | .slice _,v,hf,_=>by simp[DV.flat] at hf
 | .ptr _,v,hf,_=>by simp[DV.flat] at hf
 | .fn _ _,v,hf,_=>by simp[DV.flat] at hf
 | .map _ _,v,hf,_=>by simp[DV.flat] at hf
theorem aI.flat:∀ (ds:List DV) (vs:List Value),DV.flats ds=true->aI w M ds vs->aI w' M' ds vs
 |[],vs,_,h=>by unfold aI at *;exact h
 |d::ds,vs,hf,h=>by
  unfold aI at *
  obtain⟨u,us,h1,h2,h3⟩:=h
  simp only[DV.flats,Oz] at hf
  exact⟨u,us,h1,aQ.flat d u hf.1 h2,aI.flat ds us hf.2 h3⟩
end
end
section
variable {c:Cx} {σ:St} {κ:Nat->Value} {φ:Nat->List Nat} {a:Act} {w:World}
theorem Jg (hr:cE c σ κ φ a w) {id e sz:Nat} {rows:List (List SV)} {ds:List (List DV)} (hv:σ.h id= .vec e sz rows) (hds:SV.frzR rows=some ds):aQ w c.M0 (.slice ds) (κ id):=by
 have hch:=hr.chunks id
 rw[hv] at hch
 exact DS (M:=own c φ) (fun b hb=> .inl hb) (fun b hb=>wg hr hb) hch hds
theorem HR (hr:cE c σ κ φ a w) {x:SV} {u:Value} {F:List Nat} {d:DV} (hF:∀ b∈F,¬ c.M0 b) (h:aK w (own c φ) κ x u F) (hl:SV.lendC σ.h x=some d):aQ w c.M0 d u:=by
 have hsh:∀ b,c.M0 b->own c φ b:=fun b hb=> .inl hb
 cases x with
 |own m v=>exact x9 hsh hF h (by simpa only[SV.lendC,SV.frz] using hl)
 |d v=>exact x9 hsh hF h (by simpa only[SV.lendC,SV.frz] using hl)
 |nils=>exact x9 hsh hF h (by simpa only[SV.lendC,SV.frz] using hl)
 |lit sz n cs=>exact x9 hsh hF h (by simpa only[SV.lendC,SV.frz] using hl)
 |vec id=>
  simp only[SV.lendC] at hl
  split at hl
  ·rename_i e sz rows hv
   split at hl
   ·rename_i ds hds
    simp only[Oy] at hl;subst hl
    simp only[aK,ae] at h
    rw[h.2]
    exact Jg hr hv hds
   ·cases hl
  ·cases hl
 |_=>simp[SV.lendC] at hl
theorem xd (hr:cE c σ κ φ a w):∀ {cs:List SV} {us:List Value} {F:List Nat} {ds:List DV},(∀ b∈F,¬ c.M0 b)->am w (own c φ) κ cs us F->SV.lendCs σ.h cs=some ds->aI w c.M0 ds us
 |[],us,F,ds,hF,h,hl=>by
  simp only[SV.lendCs,Oy] at hl;subst hl
  simp only[am] at h;unfold aI;exact h.1
 |x::cs,us,F,ds,hF,h,hl=>by
  simp only[SV.lendCs] at hl
  split at hl
  ·rename_i y ys hy hys
   simp only[Oy] at hl;subst hl
   simp only[am] at h
   obtain⟨u,us',F1,F2,rfl,rfl,h1,h2⟩:=h
   unfold aI
   exact⟨u,us',rfl,HR hr (fun b hb=>hF b (by simp[hb])) h1 hy,xd hr (fun b hb=>hF b (by simp[hb])) h2 hys⟩
  ·cases hl
theorem Jh (hr:cE c σ κ φ a w) {id:Nat} {cs:List SV} {ds:List DV} (hv:σ.h id= .box cs) (hl:SV.lendCs σ.h cs=some ds):aQ w c.M0 (.ptr ds) (κ id):=by
 have hch:=hr.chunks id
 rw[hv] at hch
 obtain⟨b,T,vs,G,h1,h2,h3,h4,hφ⟩:=hch
 have hn:∀ b'∈b::G,¬ c.M0 b':=fun b' hb'=>wg hr (id:=id) (by rw[hφ];exact hb')
 unfold aQ
 exact⟨b,0,h1,hn b oS,(Pw.1 h2).1,bO.of_row h2 (xd hr (fun b' hb'=>hn b' (by simp[hb'])) h4 hl) h3 oS⟩
mutual
theorem ER (hr:cE c σ κ φ a w):∀ (x:SV) (v:Value) (d:DV),ae w (own c φ) κ x v->SV.lend σ.h x=some d->aQ w c.M0 d v
 | .vec id,v,d,h,hl=>by
  simp only[SV.lend] at hl
  split at hl
  ·rename_i e sz rows hv
   split at hl
   ·rename_i ds hds
    simp only[Oy] at hl;subst hl
    simp only[ae] at h;subst h
    have hch:=hr.chunks id
    rw[hv] at hch
    exact DS (M:=own c φ) (fun b hb=> .inl hb) (fun b hb=>wg hr hb) hch hds
   ·cases hl
  ·cases hl
 | .agg cs,v,d,h,hl=>by
  simp only[SV.lend] at hl
  split at hl
  ·rename_i xs hxs
   simp only[Oy] at hl;subst hl
   simp only[ae] at h
   obtain⟨vs,h1,h2,h3⟩:=h
   unfold aQ
   exact⟨vs,h1,h2,za hr cs vs xs h3 hxs⟩
  ·cases hl
 | .d x,v,d,h,hl=>(ae.toDV (.d x) v d h (by simpa only[SV.lend,SV.toDV] using hl)).ext (lL.shrink fun b hb=> .inl hb)
 | .nils,v,d,h,hl=>(ae.toDV .nils v d h (by simpa only[SV.lend,SV.toDV] using hl)).ext (lL.shrink fun b hb=> .inl hb)
 | .lit sz n cs,v,d,h,hl=>(ae.toDV (.lit sz n cs) v d h (by simpa only[SV.lend] using hl)).ext (lL.shrink fun b hb=> .inl hb)
 | .tup cs,v,d,h,hl=>(ae.toDV (.tup cs) v d h (by simpa only[SV.lend] using hl)).ext (lL.shrink fun b hb=> .inl hb)
 | .ref id off,v,d,h,hl=>by
  simp only[SV.lend] at hl
  split at hl
  ·rename_i h0
   subst h0
   split at hl
   ·rename_i cs hv
    split at hl
    ·rename_i ds hds
     simp only[Oy] at hl;subst hl
     simp only[ae] at h
     obtain⟨b,hk,rfl⟩:=h
     rw[<-hk]
     exact Jh hr hv hds
    ·cases hl
   ·cases hl
  ·cases hl
 | .vref _ _ _ _,v,d,h,hl=>by simp[SV.lend] at hl
 | .mp _,v,d,h,hl=>by simp[SV.lend] at hl
 | .clo _ _,v,d,h,hl=>by simp[SV.lend] at hl
 | .own _ _,v,d,h,hl=>by simp[SV.lend] at hl
theorem za (hr:cE c σ κ φ a w):∀ (cs:List SV) (vs:List Value) (ds:List DV),ai w (own c φ) κ cs vs->SV.lends σ.h cs=some ds->aI w c.M0 ds vs
 |[],vs,ds,h,hl=>by
  simp only[SV.lends,Oy] at hl;subst hl
  simp only[ai] at h;unfold aI;exact h
 |x::cs,vs,ds,h,hl=>by
  simp only[SV.lends] at hl
  split at hl
  ·rename_i y ys hy hys
   simp only[Oy] at hl;subst hl
   simp only[ai] at h
   obtain⟨u,us,h1,h2,h3⟩:=h
   unfold aI
   exact⟨u,us,h1,ER hr x u y h2 hy,za hr cs us ys h3 hys⟩
  ·cases hl
end
end
def kW {α:Type}:List (Nat×α)->(Nat->α)->Nat->α
 |[],f=>f
 |(i,v)::L,f=>aH (kW L f) i v
inductive HandL (h:Nat->Ch):List SV->List SV->List SV->List (Nat×Ch)->Prop
 |nil:HandL h [] [] [] []
 |data {x:SV} {d:DV} {xs ins outs:List SV} {L:List (Nat×Ch)} (hx:x.toDV=some d) (hl:HandL h xs ins outs L):HandL h (x::xs) (.d d::ins) (.d d::outs) L
 |nils {e:Nat} {ms:List cB} {xs ins outs:List SV} {L:List (Nat×Ch)} (hl:HandL h xs ins outs L):HandL h (.nils::xs) (.own (.sl e ms) (.slice [])::ins) (.d .any::outs) L
 |move {id:Nat} {m:cB} {d:DV} {ch:Ch} {mk:Nat->SV} {xs ins outs:List SV} {L:List (Nat×Ch)} (ho:cY m d=some (ch,mk)) (hs:eP m d) (hh:h id=ch) (hn:id∉L.map Prod.fst) (hl:HandL h xs ins outs L):
   HandL h (mk id::xs) (.own m d::ins) (.d .any::outs) ((id,.dead)::L)
 |ptr {id:Nat} {m:cB} {d d':DV} {ch ch':Ch} {mk mk':Nat->SV} {xs ins outs:List SV} {L:List (Nat×Ch)} (ho:cY m d=some (ch,mk)) (hs:eP m d) (ho':cY m d'=some (ch',mk')) (hh:h id=ch) (hn:id∉L.map Prod.fst) (hl:HandL h xs ins outs L):
   HandL h (mk id::xs) (.own m d::ins) (.own m d'::outs) ((id,ch')::L)
def iC (φ:Nat->List Nat):List (Nat×Ch)->List Nat
 |[]=>[]
 |(id,_)::L=>φ id++iC φ L
theorem cd {φ:Nat->List Nat} {b:Nat}:∀ {L:List (Nat×Ch)},b∈iC φ L↔∃ id∈L.map Prod.fst,b∈φ id
 |[]=>by simp[iC]
 |(i,ch)::L=>by simp only[iC,OV,cd (L:=L)];simp
theorem nq {α:Type} {j:Nat} {f:Nat->α}:∀ {L:List (Nat×α)},j∉L.map Prod.fst->kW L f j=f j
 |[],_=>rfl
 |(i,v)::L,h=>by
  simp only[OQ,ON,not_or] at h
  rw[kW,bf _ _ _ _ h.1,nq h.2]
section
variable {c:Cx} {σ:St} {κ:Nat->Value} {φ:Nat->List Nat} {a:Act} {w:World}
theorem xe (hr:cE c σ κ φ a w) {xs ins outs:List SV} {L:List (Nat×Ch)} (h:HandL σ.h xs ins outs L):(iC φ L).Nodup/\(L.map Prod.fst).Nodup:=by
 have key:∀ (id:Nat) (L:List (Nat×Ch)),id∉L.map Prod.fst->(iC φ L).Nodup/\(L.map Prod.fst).Nodup->∀ ch,(iC φ ((id,ch)::L)).Nodup/\(((id,ch)::L).map Prod.fst).Nodup:=fun id L hn ih ch=>by
  refine⟨Pc.2 ⟨hr.nod id,ih.1,fun x hx y hy e=> ?_⟩,by simpa using⟨by simpa using hn,ih.2⟩⟩
  subst e
  obtain⟨j,hj,hx'⟩:=cd.1 hy
  exact hr.sep id j x (fun e=>hn (e▸hj)) hx hx'
 induction h with
 |nil=>simp[iC]
 |data _ _ ih=>exact ih
 |nils _ ih=>exact ih
 |move _ _ _ hn _ ih=>exact key _ _ hn ih _
 |ptr _ _ _ _ hn _ ih=>exact key _ _ hn ih _
theorem Ji (hr:cE c σ κ φ a w) {M:Nat->Prop} (hM:∀ b,M b->own c φ b) {xs ins outs:List SV} {L:List (Nat×Ch)} (h:HandL σ.h xs ins outs L):∀ {vs:List Value},ai w (own c φ) κ xs vs->am w M κ0 ins vs (iC φ L):=by
 have hext:lL w (own c φ) w M:=lL.shrink hM
 have key:∀ {id:Nat} {m:cB} {d:DV} {ch:Ch} {mk:Nat->SV} {u:Value},cY m d=some (ch,mk)->eP m d->σ.h id=ch->ae w (own c φ) κ (mk id) u->aK w M κ0 (.own m d) u (φ id):=fun{id m d ch mk u} ho hs hh hu=>by
  have hch:=hr.chunks id
  rw[hh] at hch
  obtain⟨hk,_⟩:=D1 (φ:=φ) ho (aK.of_S _ _ hu) hch
  simp only[aK]
  exact gl.ext hext _ _ _ _ (fun _ _=>rfl) ((qB hs ho hk).1 hch)
 induction h with
 |nil=>intro vs hx;simp only[ai] at hx;simp[am,iC,hx]
 |data hx _ ih=>
  intro vs hxs
  simp only[ai] at hxs
  obtain⟨u,us,rfl,h1,h2⟩:=hxs
  simp only[am]
  exact⟨u,us,[],_,rfl,by simp,by unfold aK ae;exact⟨rfl,(ae.toDV _ _ _ h1 hx).ext hext⟩,ih h2⟩
 |nils _ ih=>
  intro vs hxs
  simp only[ai] at hxs
  obtain⟨u,us,rfl,h1,h2⟩:=hxs
  simp only[ae] at h1
  simp only[am]
  refine⟨u,us,[],_,rfl,by simp, ?_,ih h2⟩
  simp only[aK,gl]
  subst h1
  exact⟨[],[],[],rfl,World.ownsRow_nil w 0 _ _,by simp,by simp,by simp[jo],by simp[kh,wX]⟩
 |move ho hs hh _ _ ih=>
  intro vs hxs
  simp only[ai] at hxs
  obtain⟨u,us,rfl,h1,h2⟩:=hxs
  simp only[am]
  exact⟨u,us,_,_,rfl,rfl,key ho hs hh h1,ih h2⟩
 |ptr ho hs _ hh _ _ ih=>
  intro vs hxs
  simp only[ai] at hxs
  obtain⟨u,us,rfl,h1,h2⟩:=hxs
  simp only[am]
  exact⟨u,us,_,_,rfl,rfl,key ho hs hh h1,ih h2⟩
theorem C3 (hr:cE c σ κ φ a w) {w':World} {M:Nat->Prop} {xs ins outs:List SV} {L:List (Nat×Ch)} (h:HandL σ.h xs ins outs L):∀ {vs:List Value} {F:List Nat},ai w (own c φ) κ xs vs->am w' M κ0 outs vs F->
  ∃ Ls:List (Nat×List Nat),Ls.map Prod.fst=L.map Prod.fst/\(∀ b,b∈F↔∃ p∈Ls,b∈p.2)/\(F.Nodup->(∀ p∈Ls,p.2.Nodup)/\∀ p∈Ls,∀ q∈Ls,∀ b,p.1≠q.1->b∈p.2->b∉q.2)/\
   (∀ j,j∈L.map Prod.fst->kj w' M κ j (kW L σ.h j) (kW Ls φ j))/\∀ p∈Ls,kW Ls φ p.1=p.2:=by
 have key:∀ {id:Nat} {L:List (Nat×Ch)} {ch':Ch} {F1 F2:List Nat} {Ls:List (Nat×List Nat)},id∉L.map Prod.fst->kj w' M κ id ch' F1->Ls.map Prod.fst=L.map Prod.fst->(∀ b,b∈F2↔∃ p∈Ls,b∈p.2)->
   (F2.Nodup->(∀ p∈Ls,p.2.Nodup)/\∀ p∈Ls,∀ q∈Ls,∀ b,p.1≠q.1->b∈p.2->b∉q.2)->(∀ j,j∈L.map Prod.fst->kj w' M κ j (kW L σ.h j) (kW Ls φ j))->(∀ p∈Ls,kW Ls φ p.1=p.2)->
   ∃ Ls':List (Nat×List Nat),Ls'.map Prod.fst=((id,ch')::L).map Prod.fst/\(∀ b,b∈F1++F2↔∃ p∈Ls',b∈p.2)/\((F1++F2).Nodup->(∀ p∈Ls',p.2.Nodup)/\∀ p∈Ls',∀ q∈Ls',∀ b,p.1≠q.1->b∈p.2->b∉q.2)/\
    (∀ j,j∈((id,ch')::L).map Prod.fst->kj w' M κ j (kW ((id,ch')::L) σ.h j) (kW Ls' φ j))/\∀ p∈Ls',kW Ls' φ p.1=p.2:=fun{id L ch' F1 F2 Ls} hn hC h1 h2 h3 h4 h5=>by
  have hne:∀ p∈Ls,p.1≠id:=fun p hp e=>hn (by rw[<-h1,<-e];exact List.mem_map_of_mem hp)
  refine⟨(id,F1)::Ls,by simp[h1],fun b=> ?_,fun hnod=> ?_,fun j hj=> ?_,fun p hp=> ?_⟩
  ·simp[h2 b]
  ·obtain⟨n1,n2,n3⟩:=Pc.1 hnod
   obtain⟨k1,k2⟩:=h3 n2
   refine⟨fun p hp=> ?_,fun p hp q hq b hpq hb=> ?_⟩
   ·rcases ON.1 hp with rfl|hp
    ·exact n1
    ·exact k1 p hp
   ·rcases ON.1 hp with rfl|hp
    ·rcases ON.1 hq with rfl|hq
     ·exact absurd rfl hpq
     ·exact fun hb'=>n3 b hb b ((h2 b).2 ⟨q,hq,hb'⟩) rfl
    ·rcases ON.1 hq with rfl|hq
     ·exact fun hb'=>n3 b hb' b ((h2 b).2 ⟨p,hp,hb⟩) rfl
     ·exact k2 p hp q hq b hpq hb
  ·simp only[kW]
   by_cases hji:j=id
   ·subst hji;rw[an,an];exact hC
   ·rw[bf _ _ _ _ hji,bf _ _ _ _ hji]
    simp only[OQ,ON,hji,false_or] at hj
    exact h4 j hj
  ·simp only[kW]
   rcases ON.1 hp with rfl|hp
   ·rw[an]
   ·rw[bf _ _ _ _ (hne p hp)];exact h5 p hp
 induction h with
 |nil=>
  intro vs F _ hF
  simp only[am] at hF
  exact⟨[],rfl,by simp[hF.2],fun _=>by simp,by simp,by simp⟩
 |data hx _ ih=>
  intro vs F hxs hF
  simp only[ai] at hxs
  obtain⟨u,us,rfl,h1,h2⟩:=hxs
  simp only[am,O7] at hF
  obtain⟨_,_,F1,F2,⟨rfl,rfl⟩,rfl,k1,k2⟩:=hF
  simp only[aK] at k1
  obtain⟨rfl,_⟩:=k1
  simpa using ih h2 k2
 |nils _ ih=>
  intro vs F hxs hF
  simp only[ai] at hxs
  obtain⟨u,us,rfl,h1,h2⟩:=hxs
  simp only[am,O7] at hF
  obtain⟨_,_,F1,F2,⟨rfl,rfl⟩,rfl,k1,k2⟩:=hF
  simp only[aK] at k1
  obtain⟨rfl,_⟩:=k1
  simpa using ih h2 k2
 |move _ _ _ hn _ ih=>
  intro vs F hxs hF
  simp only[ai] at hxs
  obtain⟨u,us,rfl,h1,h2⟩:=hxs
  simp only[am,O7] at hF
  obtain⟨_,_,F1,F2,⟨rfl,rfl⟩,rfl,k1,k2⟩:=hF
  simp only[aK] at k1
  obtain⟨rfl,_⟩:=k1
  obtain⟨Ls,g1,g2,g3,g4,g5⟩:=ih h2 k2
  exact key hn (ch':= .dead) rfl g1 g2 g3 g4 g5
 | @ptr id m d d' ch ch' mk mk' _ _ _ _ ho hs ho' hh hn _ ih=>
  intro vs F hxs hF
  simp only[ai] at hxs
  obtain⟨u,us,rfl,h1,h2⟩:=hxs
  simp only[am,O7] at hF
  obtain⟨_,_,F1,F2,⟨rfl,rfl⟩,rfl,k1,k2⟩:=hF
  have hch:=hr.chunks id
  rw[hh] at hch
  obtain⟨hk,_⟩:=D1 (φ:=φ) ho (aK.of_S _ _ h1) hch
  simp only[aK] at k1
  obtain⟨Ls,g1,g2,g3,g4,g5⟩:=ih h2 k2
  exact key hn ((qB k1.shape ho' hk).2 k1) g1 g2 g3 g4 g5
theorem cE.called (hr:cE c σ κ φ a w) {w':World} {xs ins outs:List SV} {L:List (Nat×Ch)} {vs:List Value} {F1 F2:List Nat} (h:HandL σ.h xs ins outs L) (hxs:ai w (own c φ) κ xs vs)
  (hback:am w' (fun b=>(own c φ b/\b∉iC φ L)\/b∈F1++F2) κ0 outs vs F1) (hnod:(F1++F2).Nodup) (hin:∀ b∈F1++F2,(b∈iC φ L\/w.heap.size<=b)/\b<w'.heap.size) (hchg:yZ w.heap.size (· ∈iC φ L) w w'):
  ∃ φ1,cE c ⟨σ.s,kW L σ.h⟩ κ φ1 a w'/\(∀ b,own c φ1 b->(own c φ b/\b∉iC φ L)\/b∈F1++F2)/\∀ id b,b∈F2->b∉φ1 id:=by
 obtain⟨n1,n2,n3⟩:=Pc.1 hnod
 obtain⟨Ls,g1,g2,g3,g4,g5⟩:=C3 hr h hxs hback
 obtain⟨g3a,g3b⟩:=g3 n1
 obtain⟨_,hnd⟩:=xe hr h
 have hsub:∀ j b,b∈kW Ls φ j->(j∈L.map Prod.fst/\b∈F1/\∃ p∈Ls,p.1=j/\b∈p.2)\/(j∉L.map Prod.fst/\b∈φ j):=fun j b hb=>by
  by_cases hj:j∈L.map Prod.fst
  ·have hj':=hj
   rw[<-g1] at hj
   obtain⟨p,hp,rfl⟩:=Pd.1 hj
   rw[g5 p hp] at hb
   exact .inl ⟨hj',(g2 b).2 ⟨p,hp,hb⟩,p,hp,rfl,hb⟩
  ·rw[nq (by rw[g1];exact hj)] at hb
   exact .inr ⟨hj,hb⟩
 have hownsub:∀ b,own c (kW Ls φ) b->(own c φ b/\b∉iC φ L)\/b∈F1++F2:=fun b hb=>by
  rcases hb with hb|⟨j,hb⟩
  ·refine .inl ⟨.inl hb,fun hf=> ?_⟩
   obtain⟨id,_,hi⟩:=cd.1 hf
   exact wg hr hi hb
  ·rcases hsub j b hb with⟨_,h1,_⟩|⟨hj,h1⟩
   ·exact .inr (by simp[h1])
   ·refine .inl ⟨.inr ⟨j,h1⟩,fun hf=> ?_⟩
    obtain⟨id,hid,hi⟩:=cd.1 hf
    exact hr.sep j id b (fun e=>hj (e▸hid)) h1 hi
 have hext:lL w (own c φ) w' (own c (kW Ls φ)):=⟨hchg.size,fun b hb hm=>⟨hchg.block b hb fun hf=>by
   obtain⟨id,_,hi⟩:=cd.1 hf
   exact hm (.inr ⟨id,hi⟩),fun ho=>by
   rcases hownsub b ho with h|h
   ·exact hm h.1
   ·rcases(hin b h).1 with h|h
    ·obtain⟨id,_,hi⟩:=cd.1 h
     exact hm (.inr ⟨id,hi⟩)
    ·omega⟩⟩
 have hkeep:∀ j,j∉L.map Prod.fst->∀ b∈φ j,w'.heap[b]?=w.heap[b]?:=fun j hj b hb=>hchg.block b (hr.mine j b hb).1 fun hf=>by
  obtain⟨id,hid,hi⟩:=cd.1 hf
  exact hr.sep j id b (fun e=>hj (e▸hid)) hb hi
 refine⟨kW Ls φ,⟨?_,PA hr.size hchg.size,hr.m0,hr.ntmps,hr.defers,hr.kok,fun i hi=>ae.ext hext _ _ (hr.slots i hi),fun i v hv=>ae.ext hext _ _ (hr.ghost i v hv),fun j=> ?_,fun j b hb=> ?_,fun j=> ?_,fun i j b hij hi hj=> ?_⟩,hownsub,fun id b hb hbi=> ?_⟩
 ·refine hr.chg.trans ⟨hchg.os,hchg.tape,hchg.output,hchg.size,fun b hb hA=>hchg.block b (O4 hb hr.size) fun hf=> ?_⟩
  obtain⟨id,_,hi⟩:=cd.1 hf
  rcases(hr.mine id b hi).2 with h|h
  ·omega
  ·exact hA h
 ·by_cases hj:j∈L.map Prod.fst
  ·exact(g4 j hj).ext (lL.shrink hownsub) (fun _ _=>rfl)
  ·dsimp only
   rw[nq hj,nq (by rw[g1];exact hj)]
   exact(hr.chunks j).ext hext (hkeep j hj)
 ·rcases hsub j b hb with⟨_,h1,_⟩|⟨hj,h1⟩
  ·have:=hin b (by simp[h1])
   refine⟨this.2, ?_⟩
   rcases this.1 with h|h
   ·obtain⟨id,_,hi⟩:=cd.1 h
    exact(hr.mine id b hi).2
   ·exact .inl (PA hr.size h)
  ·exact⟨O4 (hr.mine j b h1).1 hchg.size,(hr.mine j b h1).2⟩
 ·by_cases hj:j∈L.map Prod.fst
  ·rw[<-g1] at hj
   obtain⟨p,hp,rfl⟩:=Pd.1 hj
   rw[g5 p hp];exact g3a p hp
  ·rw[nq (by rw[g1];exact hj)];exact hr.nod j
 ·rcases hsub i b hi with⟨_,h1,p,hp,rfl,hbp⟩|⟨hi',h1⟩
  ·rcases hsub j b hj with⟨_,_,q,hq,rfl,hbq⟩|⟨hj',h2⟩
   ·exact g3b p hp q hq b hij hbp hbq
   ·rcases(hin b (by simp[h1])).1 with h|h
    ·obtain⟨id,hid,hi⟩:=cd.1 h
     exact hr.sep j id b (fun e=>hj' (e▸hid)) h2 hi
    ·have:=(hr.mine j b h2).1;omega
  ·rcases hsub j b hj with⟨_,h2,_⟩|⟨hj',h2⟩
   ·rcases(hin b (by simp[h2])).1 with h|h
    ·obtain⟨id,hid,hi⟩:=cd.1 h
     exact hr.sep i id b (fun e=>hi' (e▸hid)) h1 hi
    ·have:=(hr.mine i b h1).1;omega
   ·exact hr.sep i j b hij h1 h2
 ·rcases hsub id b hbi with⟨_,h1,_⟩|⟨hj',h2⟩
  ·exact n3 b h1 b hb rfl
  ·rcases(hin b (by simp[hb])).1 with h|h
   ·obtain⟨i,hid,hi⟩:=cd.1 h
    exact hr.sep id i b (fun e=>hj' (e▸hid)) h2 hi
   ·have:=(hr.mine id b h2).1;omega
theorem cE.called2 (hr:cE c σ κ φ a w) {w':World} {xs ins outs:List SV} {L:List (Nat×Ch)} {vs:List Value} {F1 F2:List Nat} (h:HandL σ.h xs ins outs L) (hxs:ai w (own c φ) κ xs vs)
  (hback:am w' (fun b=>(own c φ b/\b∉iC φ L)\/b∈F1++F2) κ0 outs vs F1) (hnod:(F1++F2).Nodup) (hin:∀ b∈F1++F2,(b∈iC φ L\/w.heap.size<=b)/\b<w'.heap.size) (hchg:yZ w.heap.size (· ∈iC φ L) w w')
  {dst:Nat} {u:Value} {ch:Ch} (hone:u.oneCell'=true) (hres:kj w' (fun b=>(own c φ b/\b∉iC φ L)\/b∈F1++F2) (aH κ dst u) dst ch F2):
  ∃ φ1,cE c ⟨gn dst .any σ.s,aH (lv dst .any (kW L σ.h)) dst ch⟩ (aH κ dst u) φ1 a w'/\(∀ b,own c φ1 b->(own c φ b/\b∉iC φ L)\/b∈F1++F2):=by
 obtain⟨n1,n2,n3⟩:=Pc.1 hnod
 obtain⟨Ls,g1,g2,g3,g4,g5⟩:=C3 hr h hxs hback
 obtain⟨g3a,g3b⟩:=g3 n1
 obtain⟨_,hnd⟩:=xe hr h
 have hsub:∀ j b,b∈kW Ls φ j->(j∈L.map Prod.fst/\b∈F1/\∃ p∈Ls,p.1=j/\b∈p.2)\/(j∉L.map Prod.fst/\b∈φ j):=fun j b hb=>by
  by_cases hj:j∈L.map Prod.fst
  ·have hj':=hj
   rw[<-g1] at hj
   obtain⟨p,hp,rfl⟩:=Pd.1 hj
   rw[g5 p hp] at hb
   exact .inl ⟨hj',(g2 b).2 ⟨p,hp,hb⟩,p,hp,rfl,hb⟩
  ·rw[nq (by rw[g1];exact hj)] at hb
   exact .inr ⟨hj,hb⟩
 have hown1:∀ b,own c (kW Ls φ) b->(own c φ b/\b∉iC φ L)\/b∈F1++F2:=fun b hb=>by
  rcases hb with hb|⟨j,hb⟩
  ·refine .inl ⟨.inl hb,fun hf=> ?_⟩
   obtain⟨id,_,hi⟩:=cd.1 hf
   exact wg hr hi hb
  ·rcases hsub j b hb with⟨_,h1,_⟩|⟨hj,h1⟩
   ·exact .inr (by simp[h1])
   ·refine .inl ⟨.inr ⟨j,h1⟩,fun hf=> ?_⟩
    obtain⟨id,hid,hi⟩:=cd.1 hf
    exact hr.sep j id b (fun e=>hj (e▸hid)) h1 hi
 have hcase:∀ j b,b∈aH (kW Ls φ) dst F2 j->(j=dst/\b∈F2)\/(j≠dst/\b∈kW Ls φ j):=fun j b hb=>by
  by_cases hj:j=dst
  ·subst hj;rw[an] at hb;exact .inl ⟨rfl,hb⟩
  ·rw[bf _ _ _ _ hj] at hb;exact .inr ⟨hj,hb⟩
 have hownsub:∀ b,own c (aH (kW Ls φ) dst F2) b->(own c φ b/\b∉iC φ L)\/b∈F1++F2:=fun b hb=>by
  rcases hb with hb|⟨j,hb⟩
  ·exact hown1 b (.inl hb)
  ·rcases hcase j b hb with⟨_,h1⟩|⟨_,h1⟩
   ·exact .inr (by simp[h1])
   ·exact hown1 b (.inr ⟨j,h1⟩)
 have hext:lL w (own c φ) w' (own c (aH (kW Ls φ) dst F2)):=⟨hchg.size,fun b hb hm=>⟨hchg.block b hb fun hf=>by
   obtain⟨id,_,hi⟩:=cd.1 hf
   exact hm (.inr ⟨id,hi⟩),fun ho=>by
   rcases hownsub b ho with h|h
   ·exact hm h.1
   ·rcases(hin b h).1 with h|h
    ·obtain⟨id,_,hi⟩:=cd.1 h
     exact hm (.inr ⟨id,hi⟩)
    ·omega⟩⟩
 have hkeep:∀ j,j∉L.map Prod.fst->∀ b∈φ j,w'.heap[b]?=w.heap[b]?:=fun j hj b hb=>hchg.block b (hr.mine j b hb).1 fun hf=>by
  obtain⟨id,hid,hi⟩:=cd.1 hf
  exact hr.sep j id b (fun e=>hj (e▸hid)) hb hi
 have hany:∀ (w:World) (M:Nat->Prop) (v:Value),aQ w M .any v:=fun w M v=>by unfold aQ;trivial
 have hF2:∀ j b,b∈F2->b∈kW Ls φ j->False:=fun j b hb hbj=>by
  rcases hsub j b hbj with⟨_,h1,_⟩|⟨hj',h2⟩
  ·exact n3 b h1 b hb rfl
  ·rcases(hin b (by simp[hb])).1 with h|h
   ·obtain⟨i,hid,hi⟩:=cd.1 h
    exact hr.sep j i b (fun e=>hj' (e▸hid)) h2 hi
   ·have:=(hr.mine j b h2).1;omega
 refine⟨aH (kW Ls φ) dst F2,⟨?_,PA hr.size hchg.size,hr.m0,hr.ntmps,hr.defers,fun j=> ?_,fun i hi=>go hext (hany _ _ _) _ _ (hr.slots i hi),fun i v hv=>go hext (hany _ _ _) _ _ (hr.ghost i v hv),fun j=> ?_,fun j b hb=> ?_,fun j=> ?_,fun i j b hij hi hj=> ?_⟩,hownsub⟩
 ·refine hr.chg.trans ⟨hchg.os,hchg.tape,hchg.output,hchg.size,fun b hb hA=>hchg.block b (O4 hb hr.size) fun hf=> ?_⟩
  obtain⟨id,_,hi⟩:=cd.1 hf
  rcases(hr.mine id b hi).2 with h|h
  ·omega
  ·exact hA h
 ·by_cases hj:j=dst
  ·subst hj;rw[an];exact hone
  ·rw[bf _ _ _ _ hj];exact hr.kok j
 ·dsimp only
  by_cases hjd:j=dst
  ·subst hjd
   rw[an,an]
   exact hres.ext (lL.shrink hownsub) (fun _ _=>rfl)
  ·rw[bf _ _ _ _ hjd,bf _ _ _ _ hjd]
   by_cases hj:j∈L.map Prod.fst
   ·exact x8 (lL.shrink hownsub) (hany _ _ _) hjd (fun _ _=>rfl) (g4 j hj)
   ·have:=x8 (v:=u) hext (hany _ _ (κ dst)) hjd (hkeep j hj) (hr.chunks j)
    rw[nq (by rw[g1];exact hj)]
    simp only[lv]
    rw[nq hj]
    exact this
 ·rcases hcase j b hb with⟨_,h1⟩|⟨_,hb⟩
  ·have:=hin b (by simp[h1])
   refine⟨this.2, ?_⟩
   rcases this.1 with h|h
   ·obtain⟨id,_,hi⟩:=cd.1 h
    exact(hr.mine id b hi).2
   ·exact .inl (PA hr.size h)
  ·rcases hsub j b hb with⟨_,h1,_⟩|⟨hj,h1⟩
   ·have:=hin b (by simp[h1])
    refine⟨this.2, ?_⟩
    rcases this.1 with h|h
    ·obtain⟨id,_,hi⟩:=cd.1 h
     exact(hr.mine id b hi).2
    ·exact .inl (PA hr.size h)
   ·exact⟨O4 (hr.mine j b h1).1 hchg.size,(hr.mine j b h1).2⟩
 ·by_cases hjd:j=dst
  ·subst hjd;rw[an];exact n2
  ·rw[bf _ _ _ _ hjd]
   by_cases hj:j∈L.map Prod.fst
   ·rw[<-g1] at hj
    obtain⟨p,hp,rfl⟩:=Pd.1 hj
    rw[g5 p hp];exact g3a p hp
   ·rw[nq (by rw[g1];exact hj)];exact hr.nod j
 ·rcases hcase i b hi with⟨ei,hi2⟩|⟨_,hi⟩
  ·rcases hcase j b hj with⟨ej,hj2⟩|⟨_,hj⟩
   ·exact hij (ei.trans ej.symm)
   ·exact hF2 j b hi2 hj
  ·rcases hcase j b hj with⟨ej,hj2⟩|⟨_,hj⟩
   ·exact hF2 i b hj2 hi
   ·rcases hsub i b hi with⟨_,h1,p,hp,rfl,hbp⟩|⟨hi',h1⟩
    ·rcases hsub j b hj with⟨_,_,q,hq,rfl,hbq⟩|⟨hj',h2⟩
     ·exact g3b p hp q hq b hij hbp hbq
     ·rcases(hin b (by simp[h1])).1 with h|h
      ·obtain⟨id,hid,hi⟩:=cd.1 h
       exact hr.sep j id b (fun e=>hj' (e▸hid)) h2 hi
      ·have:=(hr.mine j b h2).1;omega
    ·rcases hsub j b hj with⟨_,h2,_⟩|⟨hj',h2⟩
     ·rcases(hin b (by simp[h2])).1 with h|h
      ·obtain⟨id,hid,hi⟩:=cd.1 h
       exact hr.sep i id b (fun e=>hi' (e▸hid)) h1 hi
      ·have:=(hr.mine i b h1).1;omega
     ·exact hr.sep i j b hij h1 h2
end
