/-
  My text.
-/
import Derived.Test.YtgmnipfafmphaaaGreatDoorSZEngW
namespace Go.Proofs.YtgmnipfafmphaaaGreatDoor
set_option linter.unusedSimpArgs false
set_option linter.unusedVariables false
open Go.RowKit
mutual
def FE:aL->aL->Bool
 | .sh,m=>m.plain
 | .sl e' ms',.sl e ms=>e'==e&&wy ms' ms
 | .pt _,_=>false
 | .mp _ _,_=>false
 | .bld _ _,_=>false
 | .sl _ _,_=>false
def wy:List aL->List aL->Bool
 |[],[]=>true
 |m'::l',m::l=>FE m' m&&wy l' l
 |_,_=>false
end
theorem wz:∀ {l' l:List aL},wy l' l=true->l'.length=l.length
 |[],[],_=>rfl
 |[],_::_,h=>by simp[wy] at h
 |_::_,[],h=>by simp[wy] at h
 |_::l',_::l,h=>by
  simp only[wy,K1] at h
  simp[wz h.2]
section
variable {w:World} {M:Nat->Prop}
def zG (M:Nat->Prop) (F:List Nat) (R:(Nat->Prop)->List Nat->Prop):Prop:=
 ∃ F',F'.Sublist F/\∀ M':Nat->Prop,(∀ b,M' b->M b)->(∀ b∈F,b∉F'->¬ M' b)->R M' F'
theorem zG.append {F1 F2:List Nat} {R1 R2:(Nat->Prop)->List Nat->Prop} (hn:(F1++F2).Nodup) (h1:zG M F1 R1) (h2:zG M F2 R2):
  ∃ G1 G2,(G1++G2).Sublist (F1++F2)/\∀ M':Nat->Prop,(∀ b,M' b->M b)->(∀ b∈F1++F2,b∉G1++G2->¬ M' b)->R1 M' G1/\R2 M' G2:=by
 obtain⟨G1,s1,k1⟩:=h1
 obtain⟨G2,s2,k2⟩:=h2
 obtain⟨n1,n2,n3⟩:=Ly.1 hn
 refine⟨G1,G2,s1.append s2,fun M' hM hF=>⟨k1 M' hM fun b hb hg=>hF b (by simp[hb]) ?_,k2 M' hM fun b hb hg=>hF b (by simp[hb]) ?_⟩⟩
 ·simp only[Le,not_or]
  exact⟨hg,fun hg2=>n3 b hb b (s2.subset hg2) rfl⟩
 ·simp only[Le,not_or]
  exact⟨fun hg1=>n3 b (s1.subset hg1) b hb rfl,hg⟩
theorem dX.weak {R:List DV->List Value->List Nat->Prop} {R':(Nat->Prop)->List DV->List Value->List Nat->Prop}:∀ {rows:List (List DV)} {xs:List Value} {G:List Nat},G.Nodup->
  (∀ r ys G',G'.Nodup->R r ys G'->zG M G' fun M' F'=>R' M' r ys F')->dX R rows xs G->zG M G fun M' F'=>dX (R' M') rows xs F'
 |[],xs,G,_,_,h=>by
  obtain⟨rfl,rfl⟩:=h
  exact⟨[],Mp _,fun _ _ _=>⟨rfl,rfl⟩⟩
 |r::rs,xs,G,hn,hR,h=>by
  obtain⟨ys,zs,G1,G2,h1,rfl,h3,h4⟩:=h
  obtain⟨n1,n2,_⟩:=Ly.1 hn
  obtain⟨H1,H2,hs,hk⟩:=zG.append hn (hR r ys G1 n1 h3) (dX.weak n2 hR h4)
  exact⟨H1++H2,hs,fun M' hM hF=>⟨ys,zs,H1,H2,h1,rfl,(hk M' hM hF).1,(hk M' hM hF).2⟩⟩
mutual
theorem dz.weak:∀ (m' m:aL) (d:DV) (v:Value) (F:List Nat),FE m' m=true->F.Nodup->dz w M m d v F->zG M F fun M' F'=>dz w M' m' d v F'
 | .sh,m,d,v,F,hm,hn,h=>by
  refine⟨[],List.nil_sublist _,fun M' hM hF=> ?_⟩
  unfold dz
  refine⟨rfl,wa (κ:=κ0) hM (.own m d) v F d (fun b hb=>hF b hb oS) (by unfold ao;exact h) (by simp only[SV.thaw];rw[if_pos (by simpa only[FE] using hm)])⟩
 | .sl e' ms',.sl e ms,d,v,F,hm,hn,h=>by
  simp only[FE,K1,La] at hm
  obtain⟨rfl,hm⟩:=hm
  unfold dz at h
  obtain⟨rows,xs,G,hd,ho,h1,h2,h3,rfl⟩:=h
  obtain⟨n1,n2,n3⟩:=Ly.1 hn
  obtain⟨G',s1,k1⟩:=dX.weak (R':=fun M' r ys G'=>dy w M' ms' r ys G') n2 (fun r ys G' hG hr=>dy.weak ms' ms r ys G' hm hG hr) h3
  refine⟨ed v++G',(Mp _).append s1,fun M' hM hF=> ?_⟩
  unfold dz
  have hl:=wz hm
  refine⟨rows,xs,G',hd,by rw[hl];exact ho,h1,by rw[hl];exact h2,k1 M' hM fun b hb hg=>hF b (by simp[hb]) ?_,rfl⟩
  simp only[Le,not_or]
  exact⟨fun hv=>n3 b hv b hb rfl,hg⟩
 | .sl _ _,.sh,_,_,_,hm,_,_=>by simp[FE] at hm
 | .sl _ _,.pt _,_,_,_,hm,_,_=>by simp[FE] at hm
 | .sl _ _,.mp _ _,_,_,_,hm,_,_=>by simp[FE] at hm
 | .sl _ _,.bld _ _,_,_,_,hm,_,_=>by simp[FE] at hm
 | .pt _,_,_,_,_,hm,_,_=>by simp[FE] at hm
 | .mp _ _,_,_,_,_,hm,_,_=>by simp[FE] at hm
 | .bld _ _,_,_,_,_,hm,_,_=>by simp[FE] at hm
theorem dy.weak:∀ (ms' ms:List aL) (ds:List DV) (vs:List Value) (F:List Nat),wy ms' ms=true->F.Nodup->dy w M ms ds vs F->zG M F fun M' F'=>dy w M' ms' ds vs F'
 |[],[],ds,vs,F,hm,hn,h=>by
  unfold dy at h
  obtain⟨rfl,rfl,rfl⟩:=h
  exact⟨[],Mp _,fun _ _ _=>by unfold dy;exact⟨rfl,rfl,rfl⟩⟩
 |[],_::_,_,_,_,hm,_,_=>by simp[wy] at hm
 |_::_,[],_,_,_,hm,_,_=>by simp[wy] at hm
 |m'::ms',m::ms,ds,vs,F,hm,hn,h=>by
  simp only[wy,K1] at hm
  unfold dy at h
  obtain⟨d,ds',v,vs',F1,F2,h1,h2,rfl,h3,h4⟩:=h
  obtain⟨n1,n2,_⟩:=Ly.1 hn
  obtain⟨H1,H2,hs,hk⟩:=zG.append hn (dz.weak m' m d v F1 hm.1 n1 h3) (dy.weak ms' ms ds' vs' F2 hm.2 n2 h4)
  exact⟨H1++H2,hs,fun M' hM hF=>by unfold dy;exact⟨d,ds',v,vs',H1,H2,h1,h2,rfl,(hk M' hM hF).1,(hk M' hM hF).2⟩⟩
end
end
theorem bI.weak {P:Program} {f:FuncId} {as:List DV} {ms ms':List aL} {ds:List DV} (h:bI P f (as.map .d) (.agg (bW ms ds)) (as.map .d)) (hl:ds.length=ms.length) (hm:wy ms' ms=true):bI P f (as.map .d) (.agg (bW ms' ds)) (as.map .d):=by
 refine⟨h.1,fun w M vs F hM hF hn hv hgood hfree=> ?_⟩
 refine(h.2 w M vs F hM hF hn hv hgood hfree).mono ?_
 rintro ev w' ⟨v,F1,F2,rfl,ho,hr,hnd,hb,hc⟩
 have hno:SV.noOwns (as.map SV.d)=true:=by
  have:∀ (l:List DV),SV.noOwns (l.map .d)=true:=fun l=>by induction l with|nil=>rfl|cons d l ih=>simp[SV.noOwns,SV.noOwn,ih]
  exact this as
 obtain⟨hS,rfl⟩:=aj.to_S _ _ _ hno ho
 simp only[Lk] at hnd hb hr hS ho⊢
 unfold ao at hr
 obtain⟨us,hu,h1,h2⟩:=hr
 have h3:=(lI hl).1 h2
 obtain⟨F',s1,k1⟩:=dy.weak ms' ms ds us F2 hm hnd h3
 have hext:gh w' (fun b=>M b\/b∈F2) w' (fun b=>M b\/b∈F'):=gh.shrink fun b hb=>by
  rcases hb with hb|hb
  ·exact .inl hb
  ·exact .inr (s1.subset hb)
 have hdis:∀ b∈F2,¬ M b:=fun b hb2 hMb=>by
  have:=(hM b hMb)
  rcases(hb b hb2).1 with hbF|hge
  ·exact this.2 hbF
  ·omega
 refine⟨v,[],F',rfl,aj.of_S _ _ (ai.ext hext _ _ hS), ?_,(Lk F').symm▸s1.nodup hnd,fun b hb'=>hb b (s1.subset (by simpa using hb')),hc⟩
 unfold ao
 refine⟨us,hu,h1,(lI (by rw[wz hm];exact hl)).2 (k1 _ (fun b hb'=> ?_) fun b hb2 hnb hb'=> ?_)⟩
 ·rcases hb' with hb'|hb'
  ·exact .inl hb'
  ·exact .inr (s1.subset (by simpa using hb'))
 ·rcases hb' with hb'|hb'
  ·exact hdis b hb2 hb'
  ·exact hnb (by simpa using hb')
section
variable {P:Program} {s:Nat->SV} {h:Nat->Ch} {K:St->Prop} {sos:List SO} {α:Type} {row:α->List DV} {l:List α} {ms:List aL}
end
end Go.Proofs.YtgmnipfafmphaaaGreatDoor

