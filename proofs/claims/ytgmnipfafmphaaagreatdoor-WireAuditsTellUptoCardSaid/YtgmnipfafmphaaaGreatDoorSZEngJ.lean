/-
  My text.
-/
import Derived.Test.YtgmnipfafmphaaaGreatDoorSZEngO
namespace Go.Proofs.YtgmnipfafmphaaaGreatDoor
set_option linter.unusedSimpArgs false
set_option linter.unusedVariables false
open Go.RowKit
def ae (P:Program) (f:FuncId) (args:List DV) (res:DV):Prop:=
 iu P f=true/\∀ (w:World) (M:Nat->Prop) (vs:List Value),(∀ b,M b->b<w.heap.size)->an w M args vs->oF w->
  Calls P f vs.toArray w fun e w'=>∃ v,e= .returned v/\aJ w' M res v/\Below w.heap.size w w'
def κ0:Nat->Value:=fun _=> .pointer none
def bI (P:Program) (f:FuncId) (args:List SV) (res:SV) (outs:List SV):Prop:=
 iu P f=true/\∀ (w:World) (M:Nat->Prop) (vs:List Value) (F:List Nat),(∀ b,M b->b<w.heap.size/\b∉F)->(∀ b∈F,b<w.heap.size)->F.Nodup->aj w (fun b=>M b\/b∈F) κ0 args vs F->oF w->Af (· ∈F)->
  Calls P f vs.toArray w fun e w'=>∃ v F1 F2,e= .returned v/\aj w' (fun b=>M b\/b∈F1++F2) κ0 outs vs F1/\ao w' (fun b=>M b\/b∈F1++F2) κ0 res v F2/\(F1++F2).Nodup/\
   (∀ b∈F1++F2,(b∈F\/w.heap.size<=b)/\b<w'.heap.size)/\sG w.heap.size (· ∈F) w w'
mutual
def SV.closed:SV->Bool
 | .own _ _=>true
 | .agg cs=>SV.closeds cs
 | .tup cs=>SV.closeds cs
 | .d _=>true
 | .nils=>true
 | .lit _ _ cs=>SV.closeds cs
 | .ref _ _=>false
 | .vec _=>false
 | .vref _ _ _ _=>false
 | .mp _=>false
def SV.closeds:List SV->Bool
 |[]=>true
 |c::cs=>SV.closed c&&SV.closeds cs
end
section
variable {w:World} {M:Nat->Prop} {κ κ':Nat->Value}
mutual
theorem ag.kappa:∀ (x:SV) (u:Value),x.closed=true->ag w M κ x u->ag w M κ' x u
 | .own _ _,u,_,h=>by simp only[ag] at h
 | .agg cs,u,hc,h=>by
  simp only[ag] at *
  obtain⟨vs,h1,h2,h3⟩:=h
  exact⟨vs,h1,h2,ai.kappa cs vs (by simpa[SV.closed] using hc) h3⟩
 | .tup cs,u,hc,h=>by
  simp only[ag] at *
  obtain⟨vs,h1,h3⟩:=h
  exact⟨vs,h1,ai.kappa cs vs (by simpa[SV.closed] using hc) h3⟩
 | .d _,u,_,h=>by simp only[ag] at *;exact h
 | .nils,u,_,h=>by simp only[ag] at *;exact h
 | .lit _ _ cs,u,hc,h=>by
  simp only[ag] at *
  obtain⟨b,vs,h1,h2,h3,h4,h5,h6,h7⟩:=h
  exact⟨b,vs,h1,h2,h3,h4,h5,h6,ai.kappa cs vs (by simpa[SV.closed] using hc) h7⟩
 | .ref _ _,u,hc,_=>by simp[SV.closed] at hc
 | .vec _,u,hc,_=>by simp[SV.closed] at hc
 | .vref _ _ _ _,u,hc,_=>by simp[SV.closed] at hc
 | .mp _,u,hc,_=>by simp[SV.closed] at hc
theorem ai.kappa:∀ (cs:List SV) (us:List Value),SV.closeds cs=true->ai w M κ cs us->ai w M κ' cs us
 |[],us,_,h=>by simp only[ai] at *;exact h
 |c::cs,us,hc,h=>by
  simp only[ai,SV.closeds,K1] at *
  obtain⟨u,us',h1,h2,h3⟩:=h
  exact⟨u,us',h1,ag.kappa c u hc.1 h2,ai.kappa cs us' hc.2 h3⟩
end
mutual
theorem ao.kappa:∀ (x:SV) (u:Value) (F:List Nat),x.closed=true->ao w M κ x u F->ao w M κ' x u F
 | .own _ _,u,F,_,h=>by simp only[ao] at *;exact h
 | .agg cs,u,F,hc,h=>by
  simp only[ao] at *
  obtain⟨vs,h1,h2,h3⟩:=h
  exact⟨vs,h1,h2,aj.kappa cs vs F (by simpa[SV.closed] using hc) h3⟩
 | .tup cs,u,F,hc,h=>by
  simp only[ao] at *
  obtain⟨vs,h1,h3⟩:=h
  exact⟨vs,h1,aj.kappa cs vs F (by simpa[SV.closed] using hc) h3⟩
 | .d _,u,F,hc,h=>by simp only[ao] at *;exact⟨h.1,h.2.kappa _ _ hc⟩
 | .nils,u,F,hc,h=>by simp only[ao] at *;exact⟨h.1,h.2.kappa _ _ hc⟩
 | .lit _ _ _,u,F,hc,h=>by simp only[ao] at *;exact⟨h.1,h.2.kappa _ _ hc⟩
 | .ref _ _,u,F,hc,_=>by simp[SV.closed] at hc
 | .vec _,u,F,hc,_=>by simp[SV.closed] at hc
 | .vref _ _ _ _,u,F,hc,_=>by simp[SV.closed] at hc
 | .mp _,u,F,hc,_=>by simp[SV.closed] at hc
theorem aj.kappa:∀ (cs:List SV) (us:List Value) (F:List Nat),SV.closeds cs=true->aj w M κ cs us F->aj w M κ' cs us F
 |[],us,F,_,h=>by simp only[aj] at *;exact h
 |c::cs,us,F,hc,h=>by
  simp only[aj,SV.closeds,K1] at *
  obtain⟨u,us',F1,F2,h1,h2,h3,h4⟩:=h
  exact⟨u,us',F1,F2,h1,h2,ao.kappa c u F1 hc.1 h3,aj.kappa cs us' F2 hc.2 h4⟩
end
end
def SV.lendC (h:Nat->Ch):SV->Option DV
 | .own m v=>if m.plain then some v else none
 | .d v=>some v
 | .nils=>some (.slice [])
 | .lit sz n cs=>SV.toDV (.lit sz n cs)
 | .vec id=>match h id with| .vec _ _ rows=>(match SV.frzR rows with|some ds=>some (.slice ds)|none=>none)|_=>none
 |_=>none
def SV.lendCs (h:Nat->Ch):List SV->Option (List DV)
 |[]=>some []
 |c::cs=>match SV.lendC h c,SV.lendCs h cs with|some x,some xs=>some (x::xs)|_,_=>none
mutual
def SV.lend (h:Nat->Ch):SV->Option DV
 | .vec id=>match h id with| .vec _ _ rows=>(match SV.frzR rows with|some ds=>some (.slice ds)|none=>none)|_=>none
 | .agg cs=>match SV.lends h cs with|some xs=>some (.agg xs)|none=>none
 | .d v=>some v
 | .nils=>some (.slice [])
 | .lit sz n cs=>SV.toDV (.lit sz n cs)
 | .tup cs=>SV.toDV (.tup cs)
 | .ref id off=>if off=0 then(match h id with| .box cs=>(match SV.lendCs h cs with|some ds=>some (.ptr ds)|none=>none)|_=>none) else none
 | .vref _ _ _ _=>none
 | .mp _=>none
 | .own _ _=>none
def SV.lends (h:Nat->Ch):List SV->Option (List DV)
 |[]=>some []
 |c::cs=>match SV.lend h c,SV.lends h cs with|some x,some xs=>some (x::xs)|_,_=>none
end
mutual
def DV.flat:DV->Bool
 | .int _ _=>true
 | .bool _=>true
 | .str _=>true
 | .raw _=>true
 | .err=>true
 | .any=>true
 | .agg cs=>DV.flats cs
 | .tup cs=>DV.flats cs
 | .slice _=>false
 | .ptr _=>false
 | .fn _ _=>false
 | .map _ _=>false
def DV.flats:List DV->Bool
 |[]=>true
 |c::cs=>DV.flat c&&DV.flats cs
end
section
variable {w w':World} {M M':Nat->Prop}
mutual
theorem aJ.flat:∀ (d:DV) (v:Value),d.flat=true->aJ w M d v->aJ w' M' d v
 | .int _ _,v,_,h=>by unfold aJ at *;exact h
 | .bool _,v,_,h=>by unfold aJ at *;exact h
 | .str _,v,_,h=>by unfold aJ at *;exact h
 | .raw _,v,_,h=>by unfold aJ at *;exact h
 | .err,v,_,h=>by unfold aJ at *;exact h
 | .any,v,_,h=>by unfold aJ at *;exact h
 | .agg cs,v,hf,h=>by
  unfold aJ at *
  obtain⟨vs,h1,h2,h3⟩:=h
  exact⟨vs,h1,h2,an.flat cs vs (by simpa[DV.flat] using hf) h3⟩
 | .tup cs,v,hf,h=>by
  unfold aJ at *
  obtain⟨vs,h1,h3⟩:=h
  exact⟨vs,h1,an.flat cs vs (by simpa[DV.flat] using hf) h3⟩
 | .slice _,v,hf,_=>by simp[DV.flat] at hf
 | .ptr _,v,hf,_=>by simp[DV.flat] at hf
 | .fn _ _,v,hf,_=>by simp[DV.flat] at hf
 | .map _ _,v,hf,_=>by simp[DV.flat] at hf
theorem an.flat:∀ (ds:List DV) (vs:List Value),DV.flats ds=true->an w M ds vs->an w' M' ds vs
 |[],vs,_,h=>by unfold an at *;exact h
 |d::ds,vs,hf,h=>by
  unfold an at *
  obtain⟨u,us,h1,h2,h3⟩:=h
  simp only[DV.flats,K1] at hf
  exact⟨u,us,h1,aJ.flat d u hf.1 h2,an.flat ds us hf.2 h3⟩
end
end
section
variable {c:Cx} {σ:St} {κ:Nat->Value} {φ:Nat->List Nat} {a:Act} {w:World}
theorem ER (hr:b_ c σ κ φ a w) {id e sz:Nat} {rows:List (List SV)} {ds:List (List DV)} (hv:σ.h id= .vec e sz rows) (hds:SV.frzR rows=some ds):aJ w c.M0 (.slice ds) (κ id):=by
 have hch:=hr.chunks id
 rw[hv] at hch
 exact CB (M:=own c φ) (fun b hb=> .inl hb) (fun b hb=>pY hr hb) hch hds
theorem Dk (hr:b_ c σ κ φ a w) {x:SV} {u:Value} {F:List Nat} {d:DV} (hF:∀ b∈F,¬ c.M0 b) (h:ao w (own c φ) κ x u F) (hl:SV.lendC σ.h x=some d):aJ w c.M0 d u:=by
 have hsh:∀ b,c.M0 b->own c φ b:=fun b hb=> .inl hb
 cases x with
 |own m v=>exact lf hsh hF h (by simpa only[SV.lendC,SV.frz] using hl)
 |d v=>exact lf hsh hF h (by simpa only[SV.lendC,SV.frz] using hl)
 |nils=>exact lf hsh hF h (by simpa only[SV.lendC,SV.frz] using hl)
 |lit sz n cs=>exact lf hsh hF h (by simpa only[SV.lendC,SV.frz] using hl)
 |vec id=>
  simp only[SV.lendC] at hl
  split at hl
  ·rename_i e sz rows hv
   split at hl
   ·rename_i ds hds
    simp only[K0] at hl;subst hl
    simp only[ao,ag] at h
    rw[h.2]
    exact ER hr hv hds
   ·cases hl
  ·cases hl
 |_=>simp[SV.lendC] at hl
theorem qO (hr:b_ c σ κ φ a w):∀ {cs:List SV} {us:List Value} {F:List Nat} {ds:List DV},(∀ b∈F,¬ c.M0 b)->aj w (own c φ) κ cs us F->SV.lendCs σ.h cs=some ds->an w c.M0 ds us
 |[],us,F,ds,hF,h,hl=>by
  simp only[SV.lendCs,K0] at hl;subst hl
  simp only[aj] at h;unfold an;exact h.1
 |x::cs,us,F,ds,hF,h,hl=>by
  simp only[SV.lendCs] at hl
  split at hl
  ·rename_i y ys hy hys
   simp only[K0] at hl;subst hl
   simp only[aj] at h
   obtain⟨u,us',F1,F2,rfl,rfl,h1,h2⟩:=h
   unfold an
   exact⟨u,us',rfl,Dk hr (fun b hb=>hF b (by simp[hb])) h1 hy,qO hr (fun b hb=>hF b (by simp[hb])) h2 hys⟩
  ·cases hl
theorem ES (hr:b_ c σ κ φ a w) {id:Nat} {cs:List SV} {ds:List DV} (hv:σ.h id= .box cs) (hl:SV.lendCs σ.h cs=some ds):aJ w c.M0 (.ptr ds) (κ id):=by
 have hch:=hr.chunks id
 rw[hv] at hch
 obtain⟨b,T,vs,G,h1,h2,h3,h4,hφ⟩:=hch
 have hn:∀ b'∈b::G,¬ c.M0 b':=fun b' hb'=>pY hr (id:=id) (by rw[hφ];exact hb')
 unfold aJ
 exact⟨b,0,h1,hn b oS,(Lo.1 h2).1,bj.of_row h2 (qO hr (fun b' hb'=>hn b' (by simp[hb'])) h4 hl) h3 oS⟩
mutual
theorem As (hr:b_ c σ κ φ a w):∀ (x:SV) (v:Value) (d:DV),ag w (own c φ) κ x v->SV.lend σ.h x=some d->aJ w c.M0 d v
 | .vec id,v,d,h,hl=>by
  simp only[SV.lend] at hl
  split at hl
  ·rename_i e sz rows hv
   split at hl
   ·rename_i ds hds
    simp only[K0] at hl;subst hl
    simp only[ag] at h;subst h
    have hch:=hr.chunks id
    rw[hv] at hch
    exact CB (M:=own c φ) (fun b hb=> .inl hb) (fun b hb=>pY hr hb) hch hds
   ·cases hl
  ·cases hl
 | .agg cs,v,d,h,hl=>by
  simp only[SV.lend] at hl
  split at hl
  ·rename_i xs hxs
   simp only[K0] at hl;subst hl
   simp only[ag] at h
   obtain⟨vs,h1,h2,h3⟩:=h
   unfold aJ
   exact⟨vs,h1,h2,sW hr cs vs xs h3 hxs⟩
  ·cases hl
 | .d x,v,d,h,hl=>(ag.toDV (.d x) v d h (by simpa only[SV.lend,SV.toDV] using hl)).ext (gh.shrink fun b hb=> .inl hb)
 | .nils,v,d,h,hl=>(ag.toDV .nils v d h (by simpa only[SV.lend,SV.toDV] using hl)).ext (gh.shrink fun b hb=> .inl hb)
 | .lit sz n cs,v,d,h,hl=>(ag.toDV (.lit sz n cs) v d h (by simpa only[SV.lend] using hl)).ext (gh.shrink fun b hb=> .inl hb)
 | .tup cs,v,d,h,hl=>(ag.toDV (.tup cs) v d h (by simpa only[SV.lend] using hl)).ext (gh.shrink fun b hb=> .inl hb)
 | .ref id off,v,d,h,hl=>by
  simp only[SV.lend] at hl
  split at hl
  ·rename_i h0
   subst h0
   split at hl
   ·rename_i cs hv
    split at hl
    ·rename_i ds hds
     simp only[K0] at hl;subst hl
     simp only[ag] at h
     obtain⟨b,hk,rfl⟩:=h
     rw[<-hk]
     exact ES hr hv hds
    ·cases hl
   ·cases hl
  ·cases hl
 | .vref _ _ _ _,v,d,h,hl=>by simp[SV.lend] at hl
 | .mp _,v,d,h,hl=>by simp[SV.lend] at hl
 | .own _ _,v,d,h,hl=>by simp[SV.lend] at hl
theorem sW (hr:b_ c σ κ φ a w):∀ (cs:List SV) (vs:List Value) (ds:List DV),ai w (own c φ) κ cs vs->SV.lends σ.h cs=some ds->an w c.M0 ds vs
 |[],vs,ds,h,hl=>by
  simp only[SV.lends,K0] at hl;subst hl
  simp only[ai] at h;unfold an;exact h
 |x::cs,vs,ds,h,hl=>by
  simp only[SV.lends] at hl
  split at hl
  ·rename_i y ys hy hys
   simp only[K0] at hl;subst hl
   simp only[ai] at h
   obtain⟨u,us,h1,h2,h3⟩:=h
   unfold an
   exact⟨u,us,h1,As hr x u y h2 hy,sW hr cs us ys h3 hys⟩
  ·cases hl
end
end
def gG {α:Type}:List (Nat×α)->(Nat->α)->Nat->α
 |[],f=>f
 |(i,v)::L,f=>ak (gG L f) i v
inductive HandL (h:Nat->Ch):List SV->List SV->List SV->List (Nat×Ch)->Prop
 |nil:HandL h [] [] [] []
 |data {x:SV} {d:DV} {xs ins outs:List SV} {L:List (Nat×Ch)} (hx:x.toDV=some d) (hl:HandL h xs ins outs L):HandL h (x::xs) (.d d::ins) (.d d::outs) L
 |nils {e:Nat} {ms:List aL} {xs ins outs:List SV} {L:List (Nat×Ch)} (hl:HandL h xs ins outs L):HandL h (.nils::xs) (.own (.sl e ms) (.slice [])::ins) (.d .any::outs) L
 |move {id:Nat} {m:aL} {d:DV} {ch:Ch} {mk:Nat->SV} {xs ins outs:List SV} {L:List (Nat×Ch)} (ho:bX m d=some (ch,mk)) (hs:dY m d) (hh:h id=ch) (hn:id∉L.map Prod.fst) (hl:HandL h xs ins outs L):
   HandL h (mk id::xs) (.own m d::ins) (.d .any::outs) ((id,.dead)::L)
 |ptr {id:Nat} {m:aL} {d d':DV} {ch ch':Ch} {mk mk':Nat->SV} {xs ins outs:List SV} {L:List (Nat×Ch)} (ho:bX m d=some (ch,mk)) (hs:dY m d) (ho':bX m d'=some (ch',mk')) (hh:h id=ch) (hn:id∉L.map Prod.fst) (hl:HandL h xs ins outs L):
   HandL h (mk id::xs) (.own m d::ins) (.own m d'::outs) ((id,ch')::L)
def fK (φ:Nat->List Nat):List (Nat×Ch)->List Nat
 |[]=>[]
 |(id,_)::L=>φ id++fK φ L
theorem bG {φ:Nat->List Nat} {b:Nat}:∀ {L:List (Nat×Ch)},b∈fK φ L↔∃ id∈L.map Prod.fst,b∈φ id
 |[]=>by simp[fK]
 |(i,ch)::L=>by simp only[fK,Le,bG (L:=L)];simp
theorem ju {α:Type} {j:Nat} {f:Nat->α}:∀ {L:List (Nat×α)},j∉L.map Prod.fst->gG L f j=f j
 |[],_=>rfl
 |(i,v)::L,h=>by
  simp only[Lh,Li,not_or] at h
  rw[gG,aP _ _ _ _ h.1,ju h.2]
section
variable {c:Cx} {σ:St} {κ:Nat->Value} {φ:Nat->List Nat} {a:Act} {w:World}
theorem qP (hr:b_ c σ κ φ a w) {xs ins outs:List SV} {L:List (Nat×Ch)} (h:HandL σ.h xs ins outs L):(fK φ L).Nodup/\(L.map Prod.fst).Nodup:=by
 have key:∀ (id:Nat) (L:List (Nat×Ch)),id∉L.map Prod.fst->(fK φ L).Nodup/\(L.map Prod.fst).Nodup->∀ ch,(fK φ ((id,ch)::L)).Nodup/\(((id,ch)::L).map Prod.fst).Nodup:=fun id L hn ih ch=>by
  refine⟨Ly.2 ⟨hr.nod id,ih.1,fun x hx y hy e=> ?_⟩,by simpa using⟨by simpa using hn,ih.2⟩⟩
  subst e
  obtain⟨j,hj,hx'⟩:=bG.1 hy
  exact hr.sep id j x (fun e=>hn (e▸hj)) hx hx'
 induction h with
 |nil=>simp[fK]
 |data _ _ ih=>exact ih
 |nils _ ih=>exact ih
 |move _ _ _ hn _ ih=>exact key _ _ hn ih _
 |ptr _ _ _ _ hn _ ih=>exact key _ _ hn ih _
theorem ET (hr:b_ c σ κ φ a w) {M:Nat->Prop} (hM:∀ b,M b->own c φ b) {xs ins outs:List SV} {L:List (Nat×Ch)} (h:HandL σ.h xs ins outs L):∀ {vs:List Value},ai w (own c φ) κ xs vs->aj w M κ0 ins vs (fK φ L):=by
 have hext:gh w (own c φ) w M:=gh.shrink hM
 have key:∀ {id:Nat} {m:aL} {d:DV} {ch:Ch} {mk:Nat->SV} {u:Value},bX m d=some (ch,mk)->dY m d->σ.h id=ch->ag w (own c φ) κ (mk id) u->ao w M κ0 (.own m d) u (φ id):=fun{id m d ch mk u} ho hs hh hu=>by
  have hch:=hr.chunks id
  rw[hh] at hch
  obtain⟨hk,_⟩:=zp (φ:=φ) ho (ao.of_S _ _ hu) hch
  simp only[ao]
  exact dz.ext hext _ _ _ _ (fun _ _=>rfl) ((lJ hs ho hk).1 hch)
 induction h with
 |nil=>intro vs hx;simp only[ai] at hx;simp[aj,fK,hx]
 |data hx _ ih=>
  intro vs hxs
  simp only[ai] at hxs
  obtain⟨u,us,rfl,h1,h2⟩:=hxs
  simp only[aj]
  exact⟨u,us,[],_,rfl,by simp,by unfold ao ag;exact⟨rfl,(ag.toDV _ _ _ h1 hx).ext hext⟩,ih h2⟩
 |nils _ ih=>
  intro vs hxs
  simp only[ai] at hxs
  obtain⟨u,us,rfl,h1,h2⟩:=hxs
  simp only[ag] at h1
  simp only[aj]
  refine⟨u,us,[],_,rfl,by simp, ?_,ih h2⟩
  simp only[ao,dz]
  subst h1
  exact⟨[],[],[],rfl,World.ownsRow_nil w 0 _ _,by simp,by simp,by simp[dX],by simp[ed,oo]⟩
 |move ho hs hh _ _ ih=>
  intro vs hxs
  simp only[ai] at hxs
  obtain⟨u,us,rfl,h1,h2⟩:=hxs
  simp only[aj]
  exact⟨u,us,_,_,rfl,rfl,key ho hs hh h1,ih h2⟩
 |ptr ho hs _ hh _ _ ih=>
  intro vs hxs
  simp only[ai] at hxs
  obtain⟨u,us,rfl,h1,h2⟩:=hxs
  simp only[aj]
  exact⟨u,us,_,_,rfl,rfl,key ho hs hh h1,ih h2⟩
theorem x8 (hr:b_ c σ κ φ a w) {w':World} {M:Nat->Prop} {xs ins outs:List SV} {L:List (Nat×Ch)} (h:HandL σ.h xs ins outs L):∀ {vs:List Value} {F:List Nat},ai w (own c φ) κ xs vs->aj w' M κ0 outs vs F->
  ∃ Ls:List (Nat×List Nat),Ls.map Prod.fst=L.map Prod.fst/\(∀ b,b∈F↔∃ p∈Ls,b∈p.2)/\(F.Nodup->(∀ p∈Ls,p.2.Nodup)/\∀ p∈Ls,∀ q∈Ls,∀ b,p.1≠q.1->b∈p.2->b∉q.2)/\
   (∀ j,j∈L.map Prod.fst->gY w' M κ j (gG L σ.h j) (gG Ls φ j))/\∀ p∈Ls,gG Ls φ p.1=p.2:=by
 have key:∀ {id:Nat} {L:List (Nat×Ch)} {ch':Ch} {F1 F2:List Nat} {Ls:List (Nat×List Nat)},id∉L.map Prod.fst->gY w' M κ id ch' F1->Ls.map Prod.fst=L.map Prod.fst->(∀ b,b∈F2↔∃ p∈Ls,b∈p.2)->
   (F2.Nodup->(∀ p∈Ls,p.2.Nodup)/\∀ p∈Ls,∀ q∈Ls,∀ b,p.1≠q.1->b∈p.2->b∉q.2)->(∀ j,j∈L.map Prod.fst->gY w' M κ j (gG L σ.h j) (gG Ls φ j))->(∀ p∈Ls,gG Ls φ p.1=p.2)->
   ∃ Ls':List (Nat×List Nat),Ls'.map Prod.fst=((id,ch')::L).map Prod.fst/\(∀ b,b∈F1++F2↔∃ p∈Ls',b∈p.2)/\((F1++F2).Nodup->(∀ p∈Ls',p.2.Nodup)/\∀ p∈Ls',∀ q∈Ls',∀ b,p.1≠q.1->b∈p.2->b∉q.2)/\
    (∀ j,j∈((id,ch')::L).map Prod.fst->gY w' M κ j (gG ((id,ch')::L) σ.h j) (gG Ls' φ j))/\∀ p∈Ls',gG Ls' φ p.1=p.2:=fun{id L ch' F1 F2 Ls} hn hC h1 h2 h3 h4 h5=>by
  have hne:∀ p∈Ls,p.1≠id:=fun p hp e=>hn (by rw[<-h1,<-e];exact MA hp)
  refine⟨(id,F1)::Ls,by simp[h1],fun b=> ?_,fun hnod=> ?_,fun j hj=> ?_,fun p hp=> ?_⟩
  ·simp[h2 b]
  ·obtain⟨n1,n2,n3⟩:=Ly.1 hnod
   obtain⟨k1,k2⟩:=h3 n2
   refine⟨fun p hp=> ?_,fun p hp q hq b hpq hb=> ?_⟩
   ·rcases Li.1 hp with rfl|hp
    ·exact n1
    ·exact k1 p hp
   ·rcases Li.1 hp with rfl|hp
    ·rcases Li.1 hq with rfl|hq
     ·exact absurd rfl hpq
     ·exact fun hb'=>n3 b hb b ((h2 b).2 ⟨q,hq,hb'⟩) rfl
    ·rcases Li.1 hq with rfl|hq
     ·exact fun hb'=>n3 b hb' b ((h2 b).2 ⟨p,hp,hb⟩) rfl
     ·exact k2 p hp q hq b hpq hb
  ·simp only[gG]
   by_cases hji:j=id
   ·subst hji;rw[al,al];exact hC
   ·rw[aP _ _ _ _ hji,aP _ _ _ _ hji]
    simp only[Lh,Li,hji,false_or] at hj
    exact h4 j hj
  ·simp only[gG]
   rcases Li.1 hp with rfl|hp
   ·rw[al]
   ·rw[aP _ _ _ _ (hne p hp)];exact h5 p hp
 induction h with
 |nil=>
  intro vs F _ hF
  simp only[aj] at hF
  exact⟨[],rfl,by simp[hF.2],fun _=>by simp,by simp,by simp⟩
 |data hx _ ih=>
  intro vs F hxs hF
  simp only[ai] at hxs
  obtain⟨u,us,rfl,h1,h2⟩:=hxs
  simp only[aj,LK] at hF
  obtain⟨_,_,F1,F2,⟨rfl,rfl⟩,rfl,k1,k2⟩:=hF
  simp only[ao] at k1
  obtain⟨rfl,_⟩:=k1
  simpa using ih h2 k2
 |nils _ ih=>
  intro vs F hxs hF
  simp only[ai] at hxs
  obtain⟨u,us,rfl,h1,h2⟩:=hxs
  simp only[aj,LK] at hF
  obtain⟨_,_,F1,F2,⟨rfl,rfl⟩,rfl,k1,k2⟩:=hF
  simp only[ao] at k1
  obtain⟨rfl,_⟩:=k1
  simpa using ih h2 k2
 |move _ _ _ hn _ ih=>
  intro vs F hxs hF
  simp only[ai] at hxs
  obtain⟨u,us,rfl,h1,h2⟩:=hxs
  simp only[aj,LK] at hF
  obtain⟨_,_,F1,F2,⟨rfl,rfl⟩,rfl,k1,k2⟩:=hF
  simp only[ao] at k1
  obtain⟨rfl,_⟩:=k1
  obtain⟨Ls,g1,g2,g3,g4,g5⟩:=ih h2 k2
  exact key hn (ch':= .dead) rfl g1 g2 g3 g4 g5
 | @ptr id m d d' ch ch' mk mk' _ _ _ _ ho hs ho' hh hn _ ih=>
  intro vs F hxs hF
  simp only[ai] at hxs
  obtain⟨u,us,rfl,h1,h2⟩:=hxs
  simp only[aj,LK] at hF
  obtain⟨_,_,F1,F2,⟨rfl,rfl⟩,rfl,k1,k2⟩:=hF
  have hch:=hr.chunks id
  rw[hh] at hch
  obtain⟨hk,_⟩:=zp (φ:=φ) ho (ao.of_S _ _ h1) hch
  simp only[ao] at k1
  obtain⟨Ls,g1,g2,g3,g4,g5⟩:=ih h2 k2
  exact key hn ((lJ k1.shape ho' hk).2 k1) g1 g2 g3 g4 g5
theorem b_.called (hr:b_ c σ κ φ a w) {w':World} {xs ins outs:List SV} {L:List (Nat×Ch)} {vs:List Value} {F1 F2:List Nat} (h:HandL σ.h xs ins outs L) (hxs:ai w (own c φ) κ xs vs)
  (hback:aj w' (fun b=>(own c φ b/\b∉fK φ L)\/b∈F1++F2) κ0 outs vs F1) (hnod:(F1++F2).Nodup) (hin:∀ b∈F1++F2,(b∈fK φ L\/w.heap.size<=b)/\b<w'.heap.size) (hchg:sG w.heap.size (· ∈fK φ L) w w'):
  ∃ φ1,b_ c ⟨σ.s,gG L σ.h⟩ κ φ1 a w'/\(∀ b,own c φ1 b->(own c φ b/\b∉fK φ L)\/b∈F1++F2)/\∀ id b,b∈F2->b∉φ1 id:=by
 obtain⟨n1,n2,n3⟩:=Ly.1 hnod
 obtain⟨Ls,g1,g2,g3,g4,g5⟩:=x8 hr h hxs hback
 obtain⟨g3a,g3b⟩:=g3 n1
 obtain⟨_,hnd⟩:=qP hr h
 have hsub:∀ j b,b∈gG Ls φ j->(j∈L.map Prod.fst/\b∈F1/\∃ p∈Ls,p.1=j/\b∈p.2)\/(j∉L.map Prod.fst/\b∈φ j):=fun j b hb=>by
  by_cases hj:j∈L.map Prod.fst
  ·have hj':=hj
   rw[<-g1] at hj
   obtain⟨p,hp,rfl⟩:=Lt.1 hj
   rw[g5 p hp] at hb
   exact .inl ⟨hj',(g2 b).2 ⟨p,hp,hb⟩,p,hp,rfl,hb⟩
  ·rw[ju (by rw[g1];exact hj)] at hb
   exact .inr ⟨hj,hb⟩
 have hownsub:∀ b,own c (gG Ls φ) b->(own c φ b/\b∉fK φ L)\/b∈F1++F2:=fun b hb=>by
  rcases hb with hb|⟨j,hb⟩
  ·refine .inl ⟨.inl hb,fun hf=> ?_⟩
   obtain⟨id,_,hi⟩:=bG.1 hf
   exact pY hr hi hb
  ·rcases hsub j b hb with⟨_,h1,_⟩|⟨hj,h1⟩
   ·exact .inr (by simp[h1])
   ·refine .inl ⟨.inr ⟨j,h1⟩,fun hf=> ?_⟩
    obtain⟨id,hid,hi⟩:=bG.1 hf
    exact hr.sep j id b (fun e=>hj (e▸hid)) h1 hi
 have hext:gh w (own c φ) w' (own c (gG Ls φ)):=⟨hchg.size,fun b hb hm=>⟨hchg.block b hb fun hf=>by
   obtain⟨id,_,hi⟩:=bG.1 hf
   exact hm (.inr ⟨id,hi⟩),fun ho=>by
   rcases hownsub b ho with h|h
   ·exact hm h.1
   ·rcases(hin b h).1 with h|h
    ·obtain⟨id,_,hi⟩:=bG.1 h
     exact hm (.inr ⟨id,hi⟩)
    ·omega⟩⟩
 have hkeep:∀ j,j∉L.map Prod.fst->∀ b∈φ j,w'.heap[b]?=w.heap[b]?:=fun j hj b hb=>hchg.block b (hr.mine j b hb).1 fun hf=>by
  obtain⟨id,hid,hi⟩:=bG.1 hf
  exact hr.sep j id b (fun e=>hj (e▸hid)) hb hi
 refine⟨gG Ls φ,⟨?_,LO hr.size hchg.size,hr.m0,hr.ntmps,hr.defers,hr.kok,fun i hi=>ag.ext hext _ _ (hr.slots i hi),fun i v hv=>ag.ext hext _ _ (hr.ghost i v hv),fun j=> ?_,fun j b hb=> ?_,fun j=> ?_,fun i j b hij hi hj=> ?_⟩,hownsub,fun id b hb hbi=> ?_⟩
 ·refine hr.chg.trans ⟨hchg.os,hchg.tape,hchg.output,hchg.size,fun b hb hA=>hchg.block b (Lz hb hr.size) fun hf=> ?_⟩
  obtain⟨id,_,hi⟩:=bG.1 hf
  rcases(hr.mine id b hi).2 with h|h
  ·omega
  ·exact hA h
 ·by_cases hj:j∈L.map Prod.fst
  ·exact(g4 j hj).ext (gh.shrink hownsub) (fun _ _=>rfl)
  ·dsimp only
   rw[ju hj,ju (by rw[g1];exact hj)]
   exact(hr.chunks j).ext hext (hkeep j hj)
 ·rcases hsub j b hb with⟨_,h1,_⟩|⟨hj,h1⟩
  ·have:=hin b (by simp[h1])
   refine⟨this.2, ?_⟩
   rcases this.1 with h|h
   ·obtain⟨id,_,hi⟩:=bG.1 h
    exact(hr.mine id b hi).2
   ·exact .inl (LO hr.size h)
  ·exact⟨Lz (hr.mine j b h1).1 hchg.size,(hr.mine j b h1).2⟩
 ·by_cases hj:j∈L.map Prod.fst
  ·rw[<-g1] at hj
   obtain⟨p,hp,rfl⟩:=Lt.1 hj
   rw[g5 p hp];exact g3a p hp
  ·rw[ju (by rw[g1];exact hj)];exact hr.nod j
 ·rcases hsub i b hi with⟨_,h1,p,hp,rfl,hbp⟩|⟨hi',h1⟩
  ·rcases hsub j b hj with⟨_,_,q,hq,rfl,hbq⟩|⟨hj',h2⟩
   ·exact g3b p hp q hq b hij hbp hbq
   ·rcases(hin b (by simp[h1])).1 with h|h
    ·obtain⟨id,hid,hi⟩:=bG.1 h
     exact hr.sep j id b (fun e=>hj' (e▸hid)) h2 hi
    ·have:=(hr.mine j b h2).1;omega
  ·rcases hsub j b hj with⟨_,h2,_⟩|⟨hj',h2⟩
   ·rcases(hin b (by simp[h2])).1 with h|h
    ·obtain⟨id,hid,hi⟩:=bG.1 h
     exact hr.sep i id b (fun e=>hi' (e▸hid)) h1 hi
    ·have:=(hr.mine i b h1).1;omega
   ·exact hr.sep i j b hij h1 h2
 ·rcases hsub id b hbi with⟨_,h1,_⟩|⟨hj',h2⟩
  ·exact n3 b h1 b hb rfl
  ·rcases(hin b (by simp[hb])).1 with h|h
   ·obtain⟨i,hid,hi⟩:=bG.1 h
    exact hr.sep id i b (fun e=>hj' (e▸hid)) h2 hi
   ·have:=(hr.mine id b h2).1;omega
theorem b_.called2 (hr:b_ c σ κ φ a w) {w':World} {xs ins outs:List SV} {L:List (Nat×Ch)} {vs:List Value} {F1 F2:List Nat} (h:HandL σ.h xs ins outs L) (hxs:ai w (own c φ) κ xs vs)
  (hback:aj w' (fun b=>(own c φ b/\b∉fK φ L)\/b∈F1++F2) κ0 outs vs F1) (hnod:(F1++F2).Nodup) (hin:∀ b∈F1++F2,(b∈fK φ L\/w.heap.size<=b)/\b<w'.heap.size) (hchg:sG w.heap.size (· ∈fK φ L) w w')
  {dst:Nat} {u:Value} {ch:Ch} (hone:u.oneCell'=true) (hres:gY w' (fun b=>(own c φ b/\b∉fK φ L)\/b∈F1++F2) (ak κ dst u) dst ch F2):
  ∃ φ1,b_ c ⟨ca dst .any σ.s,ak (ct dst .any (gG L σ.h)) dst ch⟩ (ak κ dst u) φ1 a w'/\(∀ b,own c φ1 b->(own c φ b/\b∉fK φ L)\/b∈F1++F2):=by
 obtain⟨n1,n2,n3⟩:=Ly.1 hnod
 obtain⟨Ls,g1,g2,g3,g4,g5⟩:=x8 hr h hxs hback
 obtain⟨g3a,g3b⟩:=g3 n1
 obtain⟨_,hnd⟩:=qP hr h
 have hsub:∀ j b,b∈gG Ls φ j->(j∈L.map Prod.fst/\b∈F1/\∃ p∈Ls,p.1=j/\b∈p.2)\/(j∉L.map Prod.fst/\b∈φ j):=fun j b hb=>by
  by_cases hj:j∈L.map Prod.fst
  ·have hj':=hj
   rw[<-g1] at hj
   obtain⟨p,hp,rfl⟩:=Lt.1 hj
   rw[g5 p hp] at hb
   exact .inl ⟨hj',(g2 b).2 ⟨p,hp,hb⟩,p,hp,rfl,hb⟩
  ·rw[ju (by rw[g1];exact hj)] at hb
   exact .inr ⟨hj,hb⟩
 have hown1:∀ b,own c (gG Ls φ) b->(own c φ b/\b∉fK φ L)\/b∈F1++F2:=fun b hb=>by
  rcases hb with hb|⟨j,hb⟩
  ·refine .inl ⟨.inl hb,fun hf=> ?_⟩
   obtain⟨id,_,hi⟩:=bG.1 hf
   exact pY hr hi hb
  ·rcases hsub j b hb with⟨_,h1,_⟩|⟨hj,h1⟩
   ·exact .inr (by simp[h1])
   ·refine .inl ⟨.inr ⟨j,h1⟩,fun hf=> ?_⟩
    obtain⟨id,hid,hi⟩:=bG.1 hf
    exact hr.sep j id b (fun e=>hj (e▸hid)) h1 hi
 have hcase:∀ j b,b∈ak (gG Ls φ) dst F2 j->(j=dst/\b∈F2)\/(j≠dst/\b∈gG Ls φ j):=fun j b hb=>by
  by_cases hj:j=dst
  ·subst hj;rw[al] at hb;exact .inl ⟨rfl,hb⟩
  ·rw[aP _ _ _ _ hj] at hb;exact .inr ⟨hj,hb⟩
 have hownsub:∀ b,own c (ak (gG Ls φ) dst F2) b->(own c φ b/\b∉fK φ L)\/b∈F1++F2:=fun b hb=>by
  rcases hb with hb|⟨j,hb⟩
  ·exact hown1 b (.inl hb)
  ·rcases hcase j b hb with⟨_,h1⟩|⟨_,h1⟩
   ·exact .inr (by simp[h1])
   ·exact hown1 b (.inr ⟨j,h1⟩)
 have hext:gh w (own c φ) w' (own c (ak (gG Ls φ) dst F2)):=⟨hchg.size,fun b hb hm=>⟨hchg.block b hb fun hf=>by
   obtain⟨id,_,hi⟩:=bG.1 hf
   exact hm (.inr ⟨id,hi⟩),fun ho=>by
   rcases hownsub b ho with h|h
   ·exact hm h.1
   ·rcases(hin b h).1 with h|h
    ·obtain⟨id,_,hi⟩:=bG.1 h
     exact hm (.inr ⟨id,hi⟩)
    ·omega⟩⟩
 have hkeep:∀ j,j∉L.map Prod.fst->∀ b∈φ j,w'.heap[b]?=w.heap[b]?:=fun j hj b hb=>hchg.block b (hr.mine j b hb).1 fun hf=>by
  obtain⟨id,hid,hi⟩:=bG.1 hf
  exact hr.sep j id b (fun e=>hj (e▸hid)) hb hi
 have hany:∀ (w:World) (M:Nat->Prop) (v:Value),aJ w M .any v:=fun w M v=>by unfold aJ;trivial
 have hF2:∀ j b,b∈F2->b∈gG Ls φ j->False:=fun j b hb hbj=>by
  rcases hsub j b hbj with⟨_,h1,_⟩|⟨hj',h2⟩
  ·exact n3 b h1 b hb rfl
  ·rcases(hin b (by simp[hb])).1 with h|h
   ·obtain⟨i,hid,hi⟩:=bG.1 h
    exact hr.sep j i b (fun e=>hj' (e▸hid)) h2 hi
   ·have:=(hr.mine j b h2).1;omega
 refine⟨ak (gG Ls φ) dst F2,⟨?_,LO hr.size hchg.size,hr.m0,hr.ntmps,hr.defers,fun j=> ?_,fun i hi=>fa hext (hany _ _ _) _ _ (hr.slots i hi),fun i v hv=>fa hext (hany _ _ _) _ _ (hr.ghost i v hv),fun j=> ?_,fun j b hb=> ?_,fun j=> ?_,fun i j b hij hi hj=> ?_⟩,hownsub⟩
 ·refine hr.chg.trans ⟨hchg.os,hchg.tape,hchg.output,hchg.size,fun b hb hA=>hchg.block b (Lz hb hr.size) fun hf=> ?_⟩
  obtain⟨id,_,hi⟩:=bG.1 hf
  rcases(hr.mine id b hi).2 with h|h
  ·omega
  ·exact hA h
 ·by_cases hj:j=dst
  ·subst hj;rw[al];exact hone
  ·rw[aP _ _ _ _ hj];exact hr.kok j
 ·dsimp only
  by_cases hjd:j=dst
  ·subst hjd
   rw[al,al]
   exact hres.ext (gh.shrink hownsub) (fun _ _=>rfl)
  ·rw[aP _ _ _ _ hjd,aP _ _ _ _ hjd]
   by_cases hj:j∈L.map Prod.fst
   ·exact rK (gh.shrink hownsub) (hany _ _ _) hjd (fun _ _=>rfl) (g4 j hj)
   ·have:=rK (v:=u) hext (hany _ _ (κ dst)) hjd (hkeep j hj) (hr.chunks j)
    rw[ju (by rw[g1];exact hj)]
    simp only[ct]
    rw[ju hj]
    exact this
 ·rcases hcase j b hb with⟨_,h1⟩|⟨_,hb⟩
  ·have:=hin b (by simp[h1])
   refine⟨this.2, ?_⟩
   rcases this.1 with h|h
   ·obtain⟨id,_,hi⟩:=bG.1 h
    exact(hr.mine id b hi).2
   ·exact .inl (LO hr.size h)
  ·rcases hsub j b hb with⟨_,h1,_⟩|⟨hj,h1⟩
   ·have:=hin b (by simp[h1])
    refine⟨this.2, ?_⟩
    rcases this.1 with h|h
    ·obtain⟨id,_,hi⟩:=bG.1 h
     exact(hr.mine id b hi).2
    ·exact .inl (LO hr.size h)
   ·exact⟨Lz (hr.mine j b h1).1 hchg.size,(hr.mine j b h1).2⟩
 ·by_cases hjd:j=dst
  ·subst hjd;rw[al];exact n2
  ·rw[aP _ _ _ _ hjd]
   by_cases hj:j∈L.map Prod.fst
   ·rw[<-g1] at hj
    obtain⟨p,hp,rfl⟩:=Lt.1 hj
    rw[g5 p hp];exact g3a p hp
   ·rw[ju (by rw[g1];exact hj)];exact hr.nod j
 ·rcases hcase i b hi with⟨ei,hi2⟩|⟨_,hi⟩
  ·rcases hcase j b hj with⟨ej,hj2⟩|⟨_,hj⟩
   ·exact hij (ei.trans ej.symm)
   ·exact hF2 j b hi2 hj
  ·rcases hcase j b hj with⟨ej,hj2⟩|⟨_,hj⟩
   ·exact hF2 i b hj2 hi
   ·rcases hsub i b hi with⟨_,h1,p,hp,rfl,hbp⟩|⟨hi',h1⟩
    ·rcases hsub j b hj with⟨_,_,q,hq,rfl,hbq⟩|⟨hj',h2⟩
     ·exact g3b p hp q hq b hij hbp hbq
     ·rcases(hin b (by simp[h1])).1 with h|h
      ·obtain⟨id,hid,hi⟩:=bG.1 h
       exact hr.sep j id b (fun e=>hj' (e▸hid)) h2 hi
      ·have:=(hr.mine j b h2).1;omega
    ·rcases hsub j b hj with⟨_,h2,_⟩|⟨hj',h2⟩
     ·rcases(hin b (by simp[h2])).1 with h|h
      ·obtain⟨id,hid,hi⟩:=bG.1 h
       exact hr.sep i id b (fun e=>hi' (e▸hid)) h1 hi
      ·have:=(hr.mine i b h1).1;omega
     ·exact hr.sep i j b hij h1 h2
end
end Go.Proofs.YtgmnipfafmphaaaGreatDoor

