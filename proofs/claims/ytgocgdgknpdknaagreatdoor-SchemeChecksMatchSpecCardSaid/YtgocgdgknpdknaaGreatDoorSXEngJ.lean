/-
  My text.
-/
import Derived.Test.YtgocgdgknpdknaaGreatDoorSXEngO
namespace Go.Proofs.YtgocgdgknpdknaaGreatDoor
set_option linter.unusedVariables false
open Go.RowKit
def aa (P:Program) (f:FuncId) (args:List DV) (res:DV):Prop:=
 lN P f=true/\∀ (w:World) (M:Nat->Prop) (vs:List Value),(∀ b,M b->b<w.heap.size)->av w M args vs->sF w->
  Calls P f vs.toArray w fun e w'=>∃ v,e= .returned v/\aD w' M res v/\Below w.heap.size w w'
def κ0:Nat->Value:=fun _=> .pointer none
def cr (P:Program) (f:FuncId) (args:List SV) (res:SV) (outs:List SV):Prop:=
 lN P f=true/\∀ (w:World) (M:Nat->Prop) (vs:List Value) (F:List Nat),(∀ b,M b->b<w.heap.size/\b∉F)->(∀ b∈F,b<w.heap.size)->F.Nodup->aj w (fun b=>M b\/b∈F) κ0 args vs F->sF w->Ax (· ∈F)->
  Calls P f vs.toArray w fun e w'=>∃ v F1 F2,e= .returned v/\aj w' (fun b=>M b\/b∈F1++F2) κ0 outs vs F1/\aJ w' (fun b=>M b\/b∈F1++F2) κ0 res v F2/\(F1++F2).Nodup/\
   (∀ b∈F1++F2,(b∈F\/w.heap.size<=b)/\b<w'.heap.size)/\tU w.heap.size (· ∈F) w w'
mutual
def SV.closed:SV->Bool
 | .own _ _=>true
 | .agg cs=>SV.closeds cs
 | .tup cs=>SV.closeds cs
 | .d _=>true
 | .nils=>true
 | .lit _ _ cs=>SV.closeds cs
 | .ref _ _=>false
 | .vec _=>false
 | .vref _ _ _ _=>false
 | .mp _=>false
def SV.closeds:List SV->Bool
 |[]=>true
 |c::cs=>SV.closed c&&SV.closeds cs
end
section
variable {w:World} {M:Nat->Prop} {κ κ':Nat->Value}
mutual
theorem ae.kappa:∀ (x:SV) (u:Value),x.closed=true->ae w M κ x u->ae w M κ' x u
 | .own _ _,u,_,h=>by simp only[ae] at h
 | .agg cs,u,hc,h=>by
  simp only[ae] at *
  obtain⟨vs,h1,h2,h3⟩:=h
  exact⟨vs,h1,h2,ai.kappa cs vs (by simpa[SV.closed] using hc) h3⟩
 | .tup cs,u,hc,h=>by
  simp only[ae] at *
  obtain⟨vs,h1,h3⟩:=h
  exact⟨vs,h1,ai.kappa cs vs (by simpa[SV.closed] using hc) h3⟩
 | .d _,u,_,h=>by simp only[ae] at *;exact h
 | .nils,u,_,h=>by simp only[ae] at *;exact h
 | .lit _ _ cs,u,hc,h=>by
  simp only[ae] at *
  obtain⟨b,vs,h1,h2,h3,h4,h5,h6,h7⟩:=h
  exact⟨b,vs,h1,h2,h3,h4,h5,h6,ai.kappa cs vs (by simpa[SV.closed] using hc) h7⟩
 | .ref _ _,u,hc,_=>by simp[SV.closed] at hc
 | .vec _,u,hc,_=>by simp[SV.closed] at hc
 | .vref _ _ _ _,u,hc,_=>by simp[SV.closed] at hc
 | .mp _,u,hc,_=>by simp[SV.closed] at hc
theorem ai.kappa:∀ (cs:List SV) (us:List Value),SV.closeds cs=true->ai w M κ cs us->ai w M κ' cs us
 |[],us,_,h=>by simp only[ai] at *;exact h
 |c::cs,us,hc,h=>by
  simp only[ai,SV.closeds,JO] at *
  obtain⟨u,us',h1,h2,h3⟩:=h
  exact⟨u,us',h1,ae.kappa c u hc.1 h2,ai.kappa cs us' hc.2 h3⟩
end
end
def SV.lendC (h:Nat->Ch):SV->Option DV
 | .own m v=>if m.plain then some v else none
 | .d v=>some v
 | .nils=>some (.slice [])
 | .lit sz n cs=>SV.toDV (.lit sz n cs)
 | .vec id=>match h id with| .vec _ _ rows=>(match SV.frzR rows with|some ds=>some (.slice ds)|none=>none)|_=>none
 |_=>none
def SV.lendCs (h:Nat->Ch):List SV->Option (List DV)
 |[]=>some []
 |c::cs=>match SV.lendC h c,SV.lendCs h cs with|some x,some xs=>some (x::xs)|_,_=>none
mutual
def SV.lend (h:Nat->Ch):SV->Option DV
 | .vec id=>match h id with| .vec _ _ rows=>(match SV.frzR rows with|some ds=>some (.slice ds)|none=>none)|_=>none
 | .agg cs=>match SV.lends h cs with|some xs=>some (.agg xs)|none=>none
 | .d v=>some v
 | .nils=>some (.slice [])
 | .lit sz n cs=>SV.toDV (.lit sz n cs)
 | .tup cs=>SV.toDV (.tup cs)
 | .ref id off=>if off=0 then(match h id with| .box cs=>(match SV.lendCs h cs with|some ds=>some (.ptr ds)|none=>none)|_=>none) else none
 | .vref _ _ _ _=>none
 | .mp _=>none
 | .own _ _=>none
def SV.lends (h:Nat->Ch):List SV->Option (List DV)
 |[]=>some []
 |c::cs=>match SV.lend h c,SV.lends h cs with|some x,some xs=>some (x::xs)|_,_=>none
end
mutual
def DV.flat:DV->Bool
 | .int _ _=>true
 | .bool _=>true
 | .str _=>true
 | .raw _=>true
 | .err=>true
 | .any=>true
 | .agg cs=>DV.flats cs
 | .tup cs=>DV.flats cs
 | .slice _=>false
 | .ptr _=>false
 | .fn _ _=>false
 | .map _ _=>false
def DV.flats:List DV->Bool
 |[]=>true
 |c::cs=>DV.flat c&&DV.flats cs
end
section
variable {w w':World} {M M':Nat->Prop}
mutual
theorem aD.flat:∀ (d:DV) (v:Value),d.flat=true->aD w M d v->aD w' M' d v
 | .int _ _,v,_,h=>by unfold aD at *;exact h
 | .bool _,v,_,h=>by unfold aD at *;exact h
 | .str _,v,_,h=>by unfold aD at *;exact h
 | .raw _,v,_,h=>by unfold aD at *;exact h
 | .err,v,_,h=>by unfold aD at *;exact h
 | .any,v,_,h=>by unfold aD at *;exact h
 | .agg cs,v,hf,h=>by
  unfold aD at *
  obtain⟨vs,h1,h2,h3⟩:=h
  exact⟨vs,h1,h2,av.flat cs vs (by simpa[DV.flat] using hf) h3⟩
 | .tup cs,v,hf,h=>by
  unfold aD at *
  obtain⟨vs,h1,h3⟩:=h
  exact⟨vs,h1,av.flat cs vs (by simpa[DV.flat] using hf) h3⟩
 | .slice _,v,hf,_=>by simp[DV.flat] at hf
 | .ptr _,v,hf,_=>by simp[DV.flat] at hf
 | .fn _ _,v,hf,_=>by simp[DV.flat] at hf
 | .map _ _,v,hf,_=>by simp[DV.flat] at hf
theorem av.flat:∀ (ds:List DV) (vs:List Value),DV.flats ds=true->av w M ds vs->av w' M' ds vs
 |[],vs,_,h=>by unfold av at *;exact h
 |d::ds,vs,hf,h=>by
  unfold av at *
  obtain⟨u,us,h1,h2,h3⟩:=h
  simp only[DV.flats,JO] at hf
  exact⟨u,us,h1,aD.flat d u hf.1 h2,av.flat ds us hf.2 h3⟩
end
end
section
variable {c:Cx} {σ:St} {κ:Nat->Value} {φ:Nat->List Nat} {a:Act} {w:World}
theorem EO (hr:bT c σ κ φ a w) {id e sz:Nat} {rows:List (List SV)} {ds:List (List DV)} (hv:σ.h id= .vec e sz rows) (hds:SV.frzR rows=some ds):aD w c.M0 (.slice ds) (κ id):=by
 have hch:=hr.chunks id
 rw[hv] at hch
 exact zG (M:=own c φ) (fun b hb=> .inl hb) (fun b hb=>sn hr hb) hch hds
theorem DN (hr:bT c σ κ φ a w) {x:SV} {u:Value} {F:List Nat} {d:DV} (hF:∀ b∈F,¬ c.M0 b) (h:aJ w (own c φ) κ x u F) (hl:SV.lendC σ.h x=some d):aD w c.M0 d u:=by
 have hsh:∀ b,c.M0 b->own c φ b:=fun b hb=> .inl hb
 cases x with
 |own m v=>exact ua hsh hF h (by simpa only[SV.lendC,SV.frz] using hl)
 |d v=>exact ua hsh hF h (by simpa only[SV.lendC,SV.frz] using hl)
 |nils=>exact ua hsh hF h (by simpa only[SV.lendC,SV.frz] using hl)
 |lit sz n cs=>exact ua hsh hF h (by simpa only[SV.lendC,SV.frz] using hl)
 |vec id=>
  simp only[SV.lendC] at hl
  split at hl
  ·rename_i e sz rows hv
   split at hl
   ·rename_i ds hds
    simp only[JN] at hl;subst hl
    simp only[aJ,ae] at h
    rw[h.2]
    exact EO hr hv hds
   ·cases hl
  ·cases hl
 |_=>simp[SV.lendC] at hl
theorem tj (hr:bT c σ κ φ a w):∀ {cs:List SV} {us:List Value} {F:List Nat} {ds:List DV},(∀ b∈F,¬ c.M0 b)->aj w (own c φ) κ cs us F->SV.lendCs σ.h cs=some ds->av w c.M0 ds us
 |[],us,F,ds,hF,h,hl=>by
  simp only[SV.lendCs,JN] at hl;subst hl
  simp only[aj] at h;unfold av;exact h.1
 |x::cs,us,F,ds,hF,h,hl=>by
  simp only[SV.lendCs] at hl
  split at hl
  ·rename_i y ys hy hys
   simp only[JN] at hl;subst hl
   simp only[aj] at h
   obtain⟨u,us',F1,F2,rfl,rfl,h1,h2⟩:=h
   unfold av
   exact⟨u,us',rfl,DN hr (fun b hb=>hF b (by simp[hb])) h1 hy,tj hr (fun b hb=>hF b (by simp[hb])) h2 hys⟩
  ·cases hl
theorem EP (hr:bT c σ κ φ a w) {id:Nat} {cs:List SV} {ds:List DV} (hv:σ.h id= .box cs) (hl:SV.lendCs σ.h cs=some ds):aD w c.M0 (.ptr ds) (κ id):=by
 have hch:=hr.chunks id
 rw[hv] at hch
 obtain⟨b,T,vs,G,h1,h2,h3,h4,hφ⟩:=hch
 have hn:∀ b'∈b::G,¬ c.M0 b':=fun b' hb'=>sn hr (id:=id) (by rw[hφ];exact hb')
 unfold aD
 exact⟨b,0,h1,hn b oS,(Kn.1 h2).1,aZ.of_row h2 (tj hr (fun b' hb'=>hn b' (by simp[hb'])) h4 hl) h3 oS⟩
mutual
theorem AP (hr:bT c σ κ φ a w):∀ (x:SV) (v:Value) (d:DV),ae w (own c φ) κ x v->SV.lend σ.h x=some d->aD w c.M0 d v
 | .vec id,v,d,h,hl=>by
  simp only[SV.lend] at hl
  split at hl
  ·rename_i e sz rows hv
   split at hl
   ·rename_i ds hds
    simp only[JN] at hl;subst hl
    simp only[ae] at h;subst h
    have hch:=hr.chunks id
    rw[hv] at hch
    exact zG (M:=own c φ) (fun b hb=> .inl hb) (fun b hb=>sn hr hb) hch hds
   ·cases hl
  ·cases hl
 | .agg cs,v,d,h,hl=>by
  simp only[SV.lend] at hl
  split at hl
  ·rename_i xs hxs
   simp only[JN] at hl;subst hl
   simp only[ae] at h
   obtain⟨vs,h1,h2,h3⟩:=h
   unfold aD
   exact⟨vs,h1,h2,uY hr cs vs xs h3 hxs⟩
  ·cases hl
 | .d x,v,d,h,hl=>(ae.toDV (.d x) v d h (by simpa only[SV.lend,SV.toDV] using hl)).ext (kc.shrink fun b hb=> .inl hb)
 | .nils,v,d,h,hl=>(ae.toDV .nils v d h (by simpa only[SV.lend,SV.toDV] using hl)).ext (kc.shrink fun b hb=> .inl hb)
 | .lit sz n cs,v,d,h,hl=>(ae.toDV (.lit sz n cs) v d h (by simpa only[SV.lend] using hl)).ext (kc.shrink fun b hb=> .inl hb)
 | .tup cs,v,d,h,hl=>(ae.toDV (.tup cs) v d h (by simpa only[SV.lend] using hl)).ext (kc.shrink fun b hb=> .inl hb)
 | .ref id off,v,d,h,hl=>by
  simp only[SV.lend] at hl
  split at hl
  ·rename_i h0
   subst h0
   split at hl
   ·rename_i cs hv
    split at hl
    ·rename_i ds hds
     simp only[JN] at hl;subst hl
     simp only[ae] at h
     obtain⟨b,hk,rfl⟩:=h
     rw[<-hk]
     exact EP hr hv hds
    ·cases hl
   ·cases hl
  ·cases hl
 | .vref _ _ _ _,v,d,h,hl=>by simp[SV.lend] at hl
 | .mp _,v,d,h,hl=>by simp[SV.lend] at hl
 | .own _ _,v,d,h,hl=>by simp[SV.lend] at hl
theorem uY (hr:bT c σ κ φ a w):∀ (cs:List SV) (vs:List Value) (ds:List DV),ai w (own c φ) κ cs vs->SV.lends σ.h cs=some ds->av w c.M0 ds vs
 |[],vs,ds,h,hl=>by
  simp only[SV.lends,JN] at hl;subst hl
  simp only[ai] at h;unfold av;exact h
 |x::cs,vs,ds,h,hl=>by
  simp only[SV.lends] at hl
  split at hl
  ·rename_i y ys hy hys
   simp only[JN] at hl;subst hl
   simp only[ai] at h
   obtain⟨u,us,h1,h2,h3⟩:=h
   unfold av
   exact⟨u,us,h1,AP hr x u y h2 hy,uY hr cs us ys h3 hys⟩
  ·cases hl
end
end
def hE {α:Type}:List (Nat×α)->(Nat->α)->Nat->α
 |[],f=>f
 |(i,v)::L,f=>aI (hE L f) i v
inductive HandL (h:Nat->Ch):List SV->List SV->List SV->List (Nat×Ch)->Prop
 |nil:HandL h [] [] [] []
 |data {x:SV} {d:DV} {xs ins outs:List SV} {L:List (Nat×Ch)} (hx:x.toDV=some d) (hl:HandL h xs ins outs L):HandL h (x::xs) (.d d::ins) (.d d::outs) L
 |nils {e:Nat} {ms:List bQ} {xs ins outs:List SV} {L:List (Nat×Ch)} (hl:HandL h xs ins outs L):HandL h (.nils::xs) (.own (.sl e ms) (.slice [])::ins) (.d .any::outs) L
 |move {id:Nat} {m:bQ} {d:DV} {ch:Ch} {mk:Nat->SV} {xs ins outs:List SV} {L:List (Nat×Ch)} (ho:b_ m d=some (ch,mk)) (hs:dx m d) (hh:h id=ch) (hn:id∉L.map Prod.fst) (hl:HandL h xs ins outs L):
   HandL h (mk id::xs) (.own m d::ins) (.d .any::outs) ((id,.dead)::L)
 |ptr {id:Nat} {m:bQ} {d d':DV} {ch ch':Ch} {mk mk':Nat->SV} {xs ins outs:List SV} {L:List (Nat×Ch)} (ho:b_ m d=some (ch,mk)) (hs:dx m d) (ho':b_ m d'=some (ch',mk')) (hh:h id=ch) (hn:id∉L.map Prod.fst) (hl:HandL h xs ins outs L):
   HandL h (mk id::xs) (.own m d::ins) (.own m d'::outs) ((id,ch')::L)
def fj (φ:Nat->List Nat):List (Nat×Ch)->List Nat
 |[]=>[]
 |(id,_)::L=>φ id++fj φ L
theorem bm {φ:Nat->List Nat} {b:Nat}:∀ {L:List (Nat×Ch)},b∈fj φ L↔∃ id∈L.map Prod.fst,b∈φ id
 |[]=>by simp[fj]
 |(i,ch)::L=>by simp only[fj,Kc,bm (L:=L)];simp
theorem kn {α:Type} {j:Nat} {f:Nat->α}:∀ {L:List (Nat×α)},j∉L.map Prod.fst->hE L f j=f j
 |[],_=>rfl
 |(i,v)::L,h=>by
  simp only[JZ,J2,not_or] at h
  rw[hE,bd _ _ _ _ h.1,kn h.2]
section
variable {c:Cx} {σ:St} {κ:Nat->Value} {φ:Nat->List Nat} {a:Act} {w:World}
theorem tk (hr:bT c σ κ φ a w) {xs ins outs:List SV} {L:List (Nat×Ch)} (h:HandL σ.h xs ins outs L):(fj φ L).Nodup/\(L.map Prod.fst).Nodup:=by
 have key:∀ (id:Nat) (L:List (Nat×Ch)),id∉L.map Prod.fst->(fj φ L).Nodup/\(L.map Prod.fst).Nodup->∀ ch,(fj φ ((id,ch)::L)).Nodup/\(((id,ch)::L).map Prod.fst).Nodup:=fun id L hn ih ch=>by
  refine⟨KN.2 ⟨hr.nod id,ih.1,fun x hx y hy e=> ?_⟩,by simpa using⟨by simpa using hn,ih.2⟩⟩
  subst e
  obtain⟨j,hj,hx'⟩:=bm.1 hy
  exact hr.sep id j x (fun e=>hn (e▸hj)) hx hx'
 induction h with
 |nil=>simp[fj]
 |data _ _ ih=>exact ih
 |nils _ ih=>exact ih
 |move _ _ _ hn _ ih=>exact key _ _ hn ih _
 |ptr _ _ _ _ hn _ ih=>exact key _ _ hn ih _
theorem EQ (hr:bT c σ κ φ a w) {M:Nat->Prop} (hM:∀ b,M b->own c φ b) {xs ins outs:List SV} {L:List (Nat×Ch)} (h:HandL σ.h xs ins outs L):∀ {vs:List Value},ai w (own c φ) κ xs vs->aj w M κ0 ins vs (fj φ L):=by
 have hext:kc w (own c φ) w M:=kc.shrink hM
 have key:∀ {id:Nat} {m:bQ} {d:DV} {ch:Ch} {mk:Nat->SV} {u:Value},b_ m d=some (ch,mk)->dx m d->σ.h id=ch->ae w (own c φ) κ (mk id) u->aJ w M κ0 (.own m d) u (φ id):=fun{id m d ch mk u} ho hs hh hu=>by
  have hch:=hr.chunks id
  rw[hh] at hch
  obtain⟨hk,_⟩:=Cf (φ:=φ) ho (aJ.of_S _ _ hu) hch
  simp only[aJ]
  exact ef.ext hext _ _ _ _ (fun _ _=>rfl) ((qU hs ho hk).1 hch)
 induction h with
 |nil=>intro vs hx;simp only[ai] at hx;simp[aj,fj,hx]
 |data hx _ ih=>
  intro vs hxs
  simp only[ai] at hxs
  obtain⟨u,us,rfl,h1,h2⟩:=hxs
  simp only[aj]
  exact⟨u,us,[],_,rfl,by simp,by unfold aJ ae;exact⟨rfl,(ae.toDV _ _ _ h1 hx).ext hext⟩,ih h2⟩
 |nils _ ih=>
  intro vs hxs
  simp only[ai] at hxs
  obtain⟨u,us,rfl,h1,h2⟩:=hxs
  simp only[ae] at h1
  simp only[aj]
  refine⟨u,us,[],_,rfl,by simp, ?_,ih h2⟩
  simp only[aJ,ef]
  subst h1
  exact⟨[],[],[],rfl,World.ownsRow_nil w 0 _ _,by simp,by simp,by simp[gc],by simp[eD,k9]⟩
 |move ho hs hh _ _ ih=>
  intro vs hxs
  simp only[ai] at hxs
  obtain⟨u,us,rfl,h1,h2⟩:=hxs
  simp only[aj]
  exact⟨u,us,_,_,rfl,rfl,key ho hs hh h1,ih h2⟩
 |ptr ho hs _ hh _ _ ih=>
  intro vs hxs
  simp only[ai] at hxs
  obtain⟨u,us,rfl,h1,h2⟩:=hxs
  simp only[aj]
  exact⟨u,us,_,_,rfl,rfl,key ho hs hh h1,ih h2⟩
theorem yT (hr:bT c σ κ φ a w) {w':World} {M:Nat->Prop} {xs ins outs:List SV} {L:List (Nat×Ch)} (h:HandL σ.h xs ins outs L):∀ {vs:List Value} {F:List Nat},ai w (own c φ) κ xs vs->aj w' M κ0 outs vs F->
  ∃ Ls:List (Nat×List Nat),Ls.map Prod.fst=L.map Prod.fst/\(∀ b,b∈F↔∃ p∈Ls,b∈p.2)/\(F.Nodup->(∀ p∈Ls,p.2.Nodup)/\∀ p∈Ls,∀ q∈Ls,∀ b,p.1≠q.1->b∈p.2->b∉q.2)/\
   (∀ j,j∈L.map Prod.fst->kg w' M κ j (hE L σ.h j) (hE Ls φ j))/\∀ p∈Ls,hE Ls φ p.1=p.2:=by
 have key:∀ {id:Nat} {L:List (Nat×Ch)} {ch':Ch} {F1 F2:List Nat} {Ls:List (Nat×List Nat)},id∉L.map Prod.fst->kg w' M κ id ch' F1->Ls.map Prod.fst=L.map Prod.fst->(∀ b,b∈F2↔∃ p∈Ls,b∈p.2)->
   (F2.Nodup->(∀ p∈Ls,p.2.Nodup)/\∀ p∈Ls,∀ q∈Ls,∀ b,p.1≠q.1->b∈p.2->b∉q.2)->(∀ j,j∈L.map Prod.fst->kg w' M κ j (hE L σ.h j) (hE Ls φ j))->(∀ p∈Ls,hE Ls φ p.1=p.2)->
   ∃ Ls':List (Nat×List Nat),Ls'.map Prod.fst=((id,ch')::L).map Prod.fst/\(∀ b,b∈F1++F2↔∃ p∈Ls',b∈p.2)/\((F1++F2).Nodup->(∀ p∈Ls',p.2.Nodup)/\∀ p∈Ls',∀ q∈Ls',∀ b,p.1≠q.1->b∈p.2->b∉q.2)/\
    (∀ j,j∈((id,ch')::L).map Prod.fst->kg w' M κ j (hE ((id,ch')::L) σ.h j) (hE Ls' φ j))/\∀ p∈Ls',hE Ls' φ p.1=p.2:=fun{id L ch' F1 F2 Ls} hn hC h1 h2 h3 h4 h5=>by
  have hne:∀ p∈Ls,p.1≠id:=fun p hp e=>hn (by rw[<-h1,<-e];exact List.mem_map_of_mem hp)
  refine⟨(id,F1)::Ls,by simp[h1],fun b=> ?_,fun hnod=> ?_,fun j hj=> ?_,fun p hp=> ?_⟩
  ·simp[h2 b]
  ·obtain⟨n1,n2,n3⟩:=KN.1 hnod
   obtain⟨k1,k2⟩:=h3 n2
   refine⟨fun p hp=> ?_,fun p hp q hq b hpq hb=> ?_⟩
   ·rcases J2.1 hp with rfl|hp
    ·exact n1
    ·exact k1 p hp
   ·rcases J2.1 hp with rfl|hp
    ·rcases J2.1 hq with rfl|hq
     ·exact absurd rfl hpq
     ·exact fun hb'=>n3 b hb b ((h2 b).2 ⟨q,hq,hb'⟩) rfl
    ·rcases J2.1 hq with rfl|hq
     ·exact fun hb'=>n3 b hb' b ((h2 b).2 ⟨p,hp,hb⟩) rfl
     ·exact k2 p hp q hq b hpq hb
  ·simp only[hE]
   by_cases hji:j=id
   ·subst hji;rw[am,am];exact hC
   ·rw[bd _ _ _ _ hji,bd _ _ _ _ hji]
    simp only[JZ,J2,hji,false_or] at hj
    exact h4 j hj
  ·simp only[hE]
   rcases J2.1 hp with rfl|hp
   ·rw[am]
   ·rw[bd _ _ _ _ (hne p hp)];exact h5 p hp
 induction h with
 |nil=>
  intro vs F _ hF
  simp only[aj] at hF
  exact⟨[],rfl,by simp[hF.2],fun _=>by simp,by simp,by simp⟩
 |data hx _ ih=>
  intro vs F hxs hF
  simp only[ai] at hxs
  obtain⟨u,us,rfl,h1,h2⟩:=hxs
  simp only[aj,Km] at hF
  obtain⟨_,_,F1,F2,⟨rfl,rfl⟩,rfl,k1,k2⟩:=hF
  simp only[aJ] at k1
  obtain⟨rfl,_⟩:=k1
  simpa using ih h2 k2
 |nils _ ih=>
  intro vs F hxs hF
  simp only[ai] at hxs
  obtain⟨u,us,rfl,h1,h2⟩:=hxs
  simp only[aj,Km] at hF
  obtain⟨_,_,F1,F2,⟨rfl,rfl⟩,rfl,k1,k2⟩:=hF
  simp only[aJ] at k1
  obtain⟨rfl,_⟩:=k1
  simpa using ih h2 k2
 |move _ _ _ hn _ ih=>
  intro vs F hxs hF
  simp only[ai] at hxs
  obtain⟨u,us,rfl,h1,h2⟩:=hxs
  simp only[aj,Km] at hF
  obtain⟨_,_,F1,F2,⟨rfl,rfl⟩,rfl,k1,k2⟩:=hF
  simp only[aJ] at k1
  obtain⟨rfl,_⟩:=k1
  obtain⟨Ls,g1,g2,g3,g4,g5⟩:=ih h2 k2
  exact key hn (ch':= .dead) rfl g1 g2 g3 g4 g5
 | @ptr id m d d' ch ch' mk mk' _ _ _ _ ho hs ho' hh hn _ ih=>
  intro vs F hxs hF
  simp only[ai] at hxs
  obtain⟨u,us,rfl,h1,h2⟩:=hxs
  simp only[aj,Km] at hF
  obtain⟨_,_,F1,F2,⟨rfl,rfl⟩,rfl,k1,k2⟩:=hF
  have hch:=hr.chunks id
  rw[hh] at hch
  obtain⟨hk,_⟩:=Cf (φ:=φ) ho (aJ.of_S _ _ h1) hch
  simp only[aJ] at k1
  obtain⟨Ls,g1,g2,g3,g4,g5⟩:=ih h2 k2
  exact key hn ((qU k1.shape ho' hk).2 k1) g1 g2 g3 g4 g5
theorem bT.called (hr:bT c σ κ φ a w) {w':World} {xs ins outs:List SV} {L:List (Nat×Ch)} {vs:List Value} {F1 F2:List Nat} (h:HandL σ.h xs ins outs L) (hxs:ai w (own c φ) κ xs vs)
  (hback:aj w' (fun b=>(own c φ b/\b∉fj φ L)\/b∈F1++F2) κ0 outs vs F1) (hnod:(F1++F2).Nodup) (hin:∀ b∈F1++F2,(b∈fj φ L\/w.heap.size<=b)/\b<w'.heap.size) (hchg:tU w.heap.size (· ∈fj φ L) w w'):
  ∃ φ1,bT c ⟨σ.s,hE L σ.h⟩ κ φ1 a w'/\(∀ b,own c φ1 b->(own c φ b/\b∉fj φ L)\/b∈F1++F2)/\∀ id b,b∈F2->b∉φ1 id:=by
 obtain⟨n1,n2,n3⟩:=KN.1 hnod
 obtain⟨Ls,g1,g2,g3,g4,g5⟩:=yT hr h hxs hback
 obtain⟨g3a,g3b⟩:=g3 n1
 obtain⟨_,hnd⟩:=tk hr h
 have hsub:∀ j b,b∈hE Ls φ j->(j∈L.map Prod.fst/\b∈F1/\∃ p∈Ls,p.1=j/\b∈p.2)\/(j∉L.map Prod.fst/\b∈φ j):=fun j b hb=>by
  by_cases hj:j∈L.map Prod.fst
  ·have hj':=hj
   rw[<-g1] at hj
   obtain⟨p,hp,rfl⟩:=Kw.1 hj
   rw[g5 p hp] at hb
   exact .inl ⟨hj',(g2 b).2 ⟨p,hp,hb⟩,p,hp,rfl,hb⟩
  ·rw[kn (by rw[g1];exact hj)] at hb
   exact .inr ⟨hj,hb⟩
 have hownsub:∀ b,own c (hE Ls φ) b->(own c φ b/\b∉fj φ L)\/b∈F1++F2:=fun b hb=>by
  rcases hb with hb|⟨j,hb⟩
  ·refine .inl ⟨.inl hb,fun hf=> ?_⟩
   obtain⟨id,_,hi⟩:=bm.1 hf
   exact sn hr hi hb
  ·rcases hsub j b hb with⟨_,h1,_⟩|⟨hj,h1⟩
   ·exact .inr (by simp[h1])
   ·refine .inl ⟨.inr ⟨j,h1⟩,fun hf=> ?_⟩
    obtain⟨id,hid,hi⟩:=bm.1 hf
    exact hr.sep j id b (fun e=>hj (e▸hid)) h1 hi
 have hext:kc w (own c φ) w' (own c (hE Ls φ)):=⟨hchg.size,fun b hb hm=>⟨hchg.block b hb fun hf=>by
   obtain⟨id,_,hi⟩:=bm.1 hf
   exact hm (.inr ⟨id,hi⟩),fun ho=>by
   rcases hownsub b ho with h|h
   ·exact hm h.1
   ·rcases(hin b h).1 with h|h
    ·obtain⟨id,_,hi⟩:=bm.1 h
     exact hm (.inr ⟨id,hi⟩)
    ·omega⟩⟩
 have hkeep:∀ j,j∉L.map Prod.fst->∀ b∈φ j,w'.heap[b]?=w.heap[b]?:=fun j hj b hb=>hchg.block b (hr.mine j b hb).1 fun hf=>by
  obtain⟨id,hid,hi⟩:=bm.1 hf
  exact hr.sep j id b (fun e=>hj (e▸hid)) hb hi
 refine⟨hE Ls φ,⟨?_,KF hr.size hchg.size,hr.m0,hr.ntmps,hr.defers,hr.kok,fun i hi=>ae.ext hext _ _ (hr.slots i hi),fun i v hv=>ae.ext hext _ _ (hr.ghost i v hv),fun j=> ?_,fun j b hb=> ?_,fun j=> ?_,fun i j b hij hi hj=> ?_⟩,hownsub,fun id b hb hbi=> ?_⟩
 ·refine hr.chg.trans ⟨hchg.os,hchg.tape,hchg.output,hchg.size,fun b hb hA=>hchg.block b (Kb hb hr.size) fun hf=> ?_⟩
  obtain⟨id,_,hi⟩:=bm.1 hf
  rcases(hr.mine id b hi).2 with h|h
  ·omega
  ·exact hA h
 ·by_cases hj:j∈L.map Prod.fst
  ·exact(g4 j hj).ext (kc.shrink hownsub) (fun _ _=>rfl)
  ·dsimp only
   rw[kn hj,kn (by rw[g1];exact hj)]
   exact(hr.chunks j).ext hext (hkeep j hj)
 ·rcases hsub j b hb with⟨_,h1,_⟩|⟨hj,h1⟩
  ·have:=hin b (by simp[h1])
   refine⟨this.2, ?_⟩
   rcases this.1 with h|h
   ·obtain⟨id,_,hi⟩:=bm.1 h
    exact(hr.mine id b hi).2
   ·exact .inl (KF hr.size h)
  ·exact⟨Kb (hr.mine j b h1).1 hchg.size,(hr.mine j b h1).2⟩
 ·by_cases hj:j∈L.map Prod.fst
  ·rw[<-g1] at hj
   obtain⟨p,hp,rfl⟩:=Kw.1 hj
   rw[g5 p hp];exact g3a p hp
  ·rw[kn (by rw[g1];exact hj)];exact hr.nod j
 ·rcases hsub i b hi with⟨_,h1,p,hp,rfl,hbp⟩|⟨hi',h1⟩
  ·rcases hsub j b hj with⟨_,_,q,hq,rfl,hbq⟩|⟨hj',h2⟩
   ·exact g3b p hp q hq b hij hbp hbq
   ·rcases(hin b (by simp[h1])).1 with h|h
    ·obtain⟨id,hid,hi⟩:=bm.1 h
     exact hr.sep j id b (fun e=>hj' (e▸hid)) h2 hi
    ·have:=(hr.mine j b h2).1;omega
  ·rcases hsub j b hj with⟨_,h2,_⟩|⟨hj',h2⟩
   ·rcases(hin b (by simp[h2])).1 with h|h
    ·obtain⟨id,hid,hi⟩:=bm.1 h
     exact hr.sep i id b (fun e=>hi' (e▸hid)) h1 hi
    ·have:=(hr.mine i b h1).1;omega
   ·exact hr.sep i j b hij h1 h2
 ·rcases hsub id b hbi with⟨_,h1,_⟩|⟨hj',h2⟩
  ·exact n3 b h1 b hb rfl
  ·rcases(hin b (by simp[hb])).1 with h|h
   ·obtain⟨i,hid,hi⟩:=bm.1 h
    exact hr.sep id i b (fun e=>hj' (e▸hid)) h2 hi
   ·have:=(hr.mine id b h2).1;omega
theorem bT.called2 (hr:bT c σ κ φ a w) {w':World} {xs ins outs:List SV} {L:List (Nat×Ch)} {vs:List Value} {F1 F2:List Nat} (h:HandL σ.h xs ins outs L) (hxs:ai w (own c φ) κ xs vs)
  (hback:aj w' (fun b=>(own c φ b/\b∉fj φ L)\/b∈F1++F2) κ0 outs vs F1) (hnod:(F1++F2).Nodup) (hin:∀ b∈F1++F2,(b∈fj φ L\/w.heap.size<=b)/\b<w'.heap.size) (hchg:tU w.heap.size (· ∈fj φ L) w w')
  {dst:Nat} {u:Value} {ch:Ch} (hone:u.oneCell'=true) (hres:kg w' (fun b=>(own c φ b/\b∉fj φ L)\/b∈F1++F2) (aI κ dst u) dst ch F2):
  ∃ φ1,bT c ⟨gE dst .any σ.s,aI (pU dst .any (hE L σ.h)) dst ch⟩ (aI κ dst u) φ1 a w'/\(∀ b,own c φ1 b->(own c φ b/\b∉fj φ L)\/b∈F1++F2):=by
 obtain⟨n1,n2,n3⟩:=KN.1 hnod
 obtain⟨Ls,g1,g2,g3,g4,g5⟩:=yT hr h hxs hback
 obtain⟨g3a,g3b⟩:=g3 n1
 obtain⟨_,hnd⟩:=tk hr h
 have hsub:∀ j b,b∈hE Ls φ j->(j∈L.map Prod.fst/\b∈F1/\∃ p∈Ls,p.1=j/\b∈p.2)\/(j∉L.map Prod.fst/\b∈φ j):=fun j b hb=>by
  by_cases hj:j∈L.map Prod.fst
  ·have hj':=hj
   rw[<-g1] at hj
   obtain⟨p,hp,rfl⟩:=Kw.1 hj
   rw[g5 p hp] at hb
   exact .inl ⟨hj',(g2 b).2 ⟨p,hp,hb⟩,p,hp,rfl,hb⟩
  ·rw[kn (by rw[g1];exact hj)] at hb
   exact .inr ⟨hj,hb⟩
 have hown1:∀ b,own c (hE Ls φ) b->(own c φ b/\b∉fj φ L)\/b∈F1++F2:=fun b hb=>by
  rcases hb with hb|⟨j,hb⟩
  ·refine .inl ⟨.inl hb,fun hf=> ?_⟩
   obtain⟨id,_,hi⟩:=bm.1 hf
   exact sn hr hi hb
  ·rcases hsub j b hb with⟨_,h1,_⟩|⟨hj,h1⟩
   ·exact .inr (by simp[h1])
   ·refine .inl ⟨.inr ⟨j,h1⟩,fun hf=> ?_⟩
    obtain⟨id,hid,hi⟩:=bm.1 hf
    exact hr.sep j id b (fun e=>hj (e▸hid)) h1 hi
 have hcase:∀ j b,b∈aI (hE Ls φ) dst F2 j->(j=dst/\b∈F2)\/(j≠dst/\b∈hE Ls φ j):=fun j b hb=>by
  by_cases hj:j=dst
  ·subst hj;rw[am] at hb;exact .inl ⟨rfl,hb⟩
  ·rw[bd _ _ _ _ hj] at hb;exact .inr ⟨hj,hb⟩
 have hownsub:∀ b,own c (aI (hE Ls φ) dst F2) b->(own c φ b/\b∉fj φ L)\/b∈F1++F2:=fun b hb=>by
  rcases hb with hb|⟨j,hb⟩
  ·exact hown1 b (.inl hb)
  ·rcases hcase j b hb with⟨_,h1⟩|⟨_,h1⟩
   ·exact .inr (by simp[h1])
   ·exact hown1 b (.inr ⟨j,h1⟩)
 have hext:kc w (own c φ) w' (own c (aI (hE Ls φ) dst F2)):=⟨hchg.size,fun b hb hm=>⟨hchg.block b hb fun hf=>by
   obtain⟨id,_,hi⟩:=bm.1 hf
   exact hm (.inr ⟨id,hi⟩),fun ho=>by
   rcases hownsub b ho with h|h
   ·exact hm h.1
   ·rcases(hin b h).1 with h|h
    ·obtain⟨id,_,hi⟩:=bm.1 h
     exact hm (.inr ⟨id,hi⟩)
    ·omega⟩⟩
 have hkeep:∀ j,j∉L.map Prod.fst->∀ b∈φ j,w'.heap[b]?=w.heap[b]?:=fun j hj b hb=>hchg.block b (hr.mine j b hb).1 fun hf=>by
  obtain⟨id,hid,hi⟩:=bm.1 hf
  exact hr.sep j id b (fun e=>hj (e▸hid)) hb hi
 have hany:∀ (w:World) (M:Nat->Prop) (v:Value),aD w M .any v:=fun w M v=>by unfold aD;trivial
 have hF2:∀ j b,b∈F2->b∈hE Ls φ j->False:=fun j b hb hbj=>by
  rcases hsub j b hbj with⟨_,h1,_⟩|⟨hj',h2⟩
  ·exact n3 b h1 b hb rfl
  ·rcases(hin b (by simp[hb])).1 with h|h
   ·obtain⟨i,hid,hi⟩:=bm.1 h
    exact hr.sep j i b (fun e=>hj' (e▸hid)) h2 hi
   ·have:=(hr.mine j b h2).1;omega
 refine⟨aI (hE Ls φ) dst F2,⟨?_,KF hr.size hchg.size,hr.m0,hr.ntmps,hr.defers,fun j=> ?_,fun i hi=>gn hext (hany _ _ _) _ _ (hr.slots i hi),fun i v hv=>gn hext (hany _ _ _) _ _ (hr.ghost i v hv),fun j=> ?_,fun j b hb=> ?_,fun j=> ?_,fun i j b hij hi hj=> ?_⟩,hownsub⟩
 ·refine hr.chg.trans ⟨hchg.os,hchg.tape,hchg.output,hchg.size,fun b hb hA=>hchg.block b (Kb hb hr.size) fun hf=> ?_⟩
  obtain⟨id,_,hi⟩:=bm.1 hf
  rcases(hr.mine id b hi).2 with h|h
  ·omega
  ·exact hA h
 ·by_cases hj:j=dst
  ·subst hj;rw[am];exact hone
  ·rw[bd _ _ _ _ hj];exact hr.kok j
 ·dsimp only
  by_cases hjd:j=dst
  ·subst hjd
   rw[am,am]
   exact hres.ext (kc.shrink hownsub) (fun _ _=>rfl)
  ·rw[bd _ _ _ _ hjd,bd _ _ _ _ hjd]
   by_cases hj:j∈L.map Prod.fst
   ·exact xm (kc.shrink hownsub) (hany _ _ _) hjd (fun _ _=>rfl) (g4 j hj)
   ·have:=xm (v:=u) hext (hany _ _ (κ dst)) hjd (hkeep j hj) (hr.chunks j)
    rw[kn (by rw[g1];exact hj)]
    simp only[pU]
    rw[kn hj]
    exact this
 ·rcases hcase j b hb with⟨_,h1⟩|⟨_,hb⟩
  ·have:=hin b (by simp[h1])
   refine⟨this.2, ?_⟩
   rcases this.1 with h|h
   ·obtain⟨id,_,hi⟩:=bm.1 h
    exact(hr.mine id b hi).2
   ·exact .inl (KF hr.size h)
  ·rcases hsub j b hb with⟨_,h1,_⟩|⟨hj,h1⟩
   ·have:=hin b (by simp[h1])
    refine⟨this.2, ?_⟩
    rcases this.1 with h|h
    ·obtain⟨id,_,hi⟩:=bm.1 h
     exact(hr.mine id b hi).2
    ·exact .inl (KF hr.size h)
   ·exact⟨Kb (hr.mine j b h1).1 hchg.size,(hr.mine j b h1).2⟩
 ·by_cases hjd:j=dst
  ·subst hjd;rw[am];exact n2
  ·rw[bd _ _ _ _ hjd]
   by_cases hj:j∈L.map Prod.fst
   ·rw[<-g1] at hj
    obtain⟨p,hp,rfl⟩:=Kw.1 hj
    rw[g5 p hp];exact g3a p hp
   ·rw[kn (by rw[g1];exact hj)];exact hr.nod j
 ·rcases hcase i b hi with⟨ei,hi2⟩|⟨_,hi⟩
  ·rcases hcase j b hj with⟨ej,hj2⟩|⟨_,hj⟩
   ·exact hij (ei.trans ej.symm)
   ·exact hF2 j b hi2 hj
  ·rcases hcase j b hj with⟨ej,hj2⟩|⟨_,hj⟩
   ·exact hF2 i b hj2 hi
   ·rcases hsub i b hi with⟨_,h1,p,hp,rfl,hbp⟩|⟨hi',h1⟩
    ·rcases hsub j b hj with⟨_,_,q,hq,rfl,hbq⟩|⟨hj',h2⟩
     ·exact g3b p hp q hq b hij hbp hbq
     ·rcases(hin b (by simp[h1])).1 with h|h
      ·obtain⟨id,hid,hi⟩:=bm.1 h
       exact hr.sep j id b (fun e=>hj' (e▸hid)) h2 hi
      ·have:=(hr.mine j b h2).1;omega
    ·rcases hsub j b hj with⟨_,h2,_⟩|⟨hj',h2⟩
     ·rcases(hin b (by simp[h2])).1 with h|h
      ·obtain⟨id,hid,hi⟩:=bm.1 h
       exact hr.sep i id b (fun e=>hi' (e▸hid)) h1 hi
      ·have:=(hr.mine i b h1).1;omega
     ·exact hr.sep i j b hij h1 h2
end
