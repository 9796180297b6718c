/-
  My text.
-/
import Derived.Test.YtgmnipfafmphaaaGreatDoorSYEngW
namespace Go.Proofs.YtgmnipfafmphaaaGreatDoor
set_option linter.unusedSimpArgs false
set_option linter.unusedVariables false
open Go.RowKit
mutual
def LS:bj->bj->Bool
 | .sh,m=>m.plain
 | .sl e' ms',.sl e ms=>e'==e&&A4 ms' ms
 | .pt _,_=>false
 | .mp _ _,_=>false
 | .bld _ _,_=>false
 | .sl _ _,_=>false
def A4:List bj->List bj->Bool
 |[],[]=>true
 |m'::l',m::l=>LS m' m&&A4 l' l
 |_,_=>false
end
theorem A5:∀ {l' l:List bj},A4 l' l=true->l'.length=l.length
 |[],[],_=>rfl
 |[],_::_,h=>by simp[A4] at h
 |_::_,[],h=>by simp[A4] at h
 |_::l',_::l,h=>by
  simp only[A4,SR] at h
  simp[A5 h.2]
section
variable {w:World} {M:Nat->Prop}
def Ep (M:Nat->Prop) (F:List Nat) (R:(Nat->Prop)->List Nat->Prop):Prop:=
 ∃ L,L.Sublist F/\∀ M':Nat->Prop,(∀ b,M' b->M b)->(∀ b∈F,b∉L->¬ M' b)->R M' L
theorem Ep.append {W F2:List Nat} {f R2:(Nat->Prop)->List Nat->Prop} (hn:(W++F2).Nodup) (h1:Ep M W f) (h2:Ep M F2 R2):
  ∃ G1 G2,(G1++G2).Sublist (W++F2)/\∀ M':Nat->Prop,(∀ b,M' b->M b)->(∀ b∈W++F2,b∉G1++G2->¬ M' b)->f M' G1/\R2 M' G2:=by
 obtain⟨G1,p,k1⟩:=h1
 obtain⟨G2,s2,k2⟩:=h2
 obtain⟨S,V,t⟩:=TD.1 hn
 refine⟨G1,G2,p.append s2,fun M' hM B=>⟨k1 M' hM fun b hb hg=>B b (by simp[hb]) ?_,k2 M' hM fun b hb hg=>B b (by simp[hb]) ?_⟩⟩
 ·simp only[Te,not_or]
  exact⟨hg,fun k=>t b hb b (s2.subset k) rfl⟩
 ·simp only[Te,not_or]
  exact⟨fun v=>t b (p.subset v) b hb rfl,hg⟩
theorem fE.weak {R:List DV->List Value->List Nat->Prop} {a:(Nat->Prop)->List DV->List Value->List Nat->Prop}:∀ {rows:List (List DV)} {xs:List Value} {G:List Nat},G.Nodup->
  (∀ r ys G',G'.Nodup->R r ys G'->Ep M G' fun M' L=>a M' r ys L)->fE R rows xs G->Ep M G fun M' L=>fE (a M') rows xs L
 |[],xs,G,_,_,h=>by
  obtain⟨rfl,rfl⟩:=h
  exact⟨[],Uv _,fun _ _ _=>⟨rfl,rfl⟩⟩
 |r::rs,xs,G,hn,t,h=>by
  obtain⟨ys,zs,G1,G2,h1,rfl,E,h4⟩:=h
  obtain⟨S,V,_⟩:=TD.1 hn
  obtain⟨b,c,hs,hk⟩:=Ep.append hn (t r ys G1 S E) (fE.weak V t h4)
  exact⟨b++c,hs,fun M' hM B=>⟨ys,zs,b,c,h1,rfl,(hk M' hM B).1,(hk M' hM B).2⟩⟩
mutual
theorem eO.weak:∀ (m' m:bj) (d:DV) (v:Value) (F:List Nat),LS m' m=true->F.Nodup->eO w M m d v F->Ep M F fun M' L=>eO w M' m' d v L
 | .sh,m,d,v,F,Z,hn,h=>by
  refine⟨[],List.nil_sublist _,fun M' hM B=> ?_⟩
  unfold eO
  refine⟨rfl,AG (κ:=κ0) hM (.own m d) v F d (fun b hb=>B b hb oS) (by unfold aO;exact h) (by simp only[SV.thaw];rw[U4 (by simpa only[LS] using Z)])⟩
 | .sl e' ms',.sl e ms,d,v,F,Z,hn,h=>by
  simp only[LS,SR,S_] at Z
  obtain⟨rfl,Z⟩:=Z
  unfold eO at h
  obtain⟨rows,xs,G,hd,ho,h1,h2,E,rfl⟩:=h
  obtain⟨S,V,t⟩:=TD.1 hn
  obtain⟨G',p,k1⟩:=fE.weak (a:=fun M' r ys G'=>eI w M' ms' r ys G') V (fun r ys G' hG D=>eI.weak ms' ms r ys G' Z hG D) E
  refine⟨fz v++G',(Uv _).append p,fun M' hM B=> ?_⟩
  unfold eO
  have hl:=A5 Z
  refine⟨rows,xs,G',hd,by rw[hl];exact ho,h1,by rw[hl];exact h2,k1 M' hM fun b hb hg=>B b (by simp[hb]) ?_,rfl⟩
  simp only[Te,not_or]
  exact⟨fun hv=>t b hv b hb rfl,hg⟩
 | .sl _ _,.sh,_,_,_,Z,_,_=>by simp[LS] at Z
 | .sl _ _,.pt _,_,_,_,Z,_,_=>by simp[LS] at Z
 | .sl _ _,.mp _ _,_,_,_,Z,_,_=>by simp[LS] at Z
 | .sl _ _,.bld _ _,_,_,_,Z,_,_=>by simp[LS] at Z
 | .pt _,_,_,_,_,Z,_,_=>by simp[LS] at Z
 | .mp _ _,_,_,_,_,Z,_,_=>by simp[LS] at Z
 | .bld _ _,_,_,_,_,Z,_,_=>by simp[LS] at Z
theorem eI.weak:∀ (ms' ms:List bj) (J:List DV) (vs:List Value) (F:List Nat),A4 ms' ms=true->F.Nodup->eI w M ms J vs F->Ep M F fun M' L=>eI w M' ms' J vs L
 |[],[],J,vs,F,Z,hn,h=>by
  unfold eI at h
  obtain⟨rfl,rfl,rfl⟩:=h
  exact⟨[],Uv _,fun _ _ _=>by unfold eI;exact⟨rfl,rfl,rfl⟩⟩
 |[],_::_,_,_,_,Z,_,_=>by simp[A4] at Z
 |_::_,[],_,_,_,Z,_,_=>by simp[A4] at Z
 |m'::ms',m::ms,J,vs,F,Z,hn,h=>by
  simp only[A4,SR] at Z
  unfold eI at h
  obtain⟨d,i,v,A,W,F2,h1,h2,rfl,E,h4⟩:=h
  obtain⟨S,V,_⟩:=TD.1 hn
  obtain⟨b,c,hs,hk⟩:=Ep.append hn (eO.weak m' m d v W Z.1 S E) (eI.weak ms' ms i A F2 Z.2 V h4)
  exact⟨b++c,hs,fun M' hM B=>by unfold eI;exact⟨d,i,v,A,b,c,h1,h2,rfl,(hk M' hM B).1,(hk M' hM B).2⟩⟩
end
end
theorem bu.weak {P:Program} {f:FuncId} {as:List DV} {ms ms':List bj} {J:List DV} (h:bu P f (as.map .d) (.agg (bi ms J)) (as.map .d)) (hl:J.length=ms.length) (Z:A4 ms' ms=true):bu P f (as.map .d) (.agg (bi ms' J)) (as.map .d):=by
 refine⟨h.1,fun w M vs F hM B hn hv S q=> ?_⟩
 refine(h.2 w M vs F hM B hn hv S q).mono ?_
 rintro ev w' ⟨v,W,F2,rfl,ho,D,r6,hb,hc⟩
 have r1:SV.noOwns (as.map SV.d)=true:=by
  have:∀ (l:List DV),SV.noOwns (l.map .d)=true:=fun l=>by induction l with|nil=>rfl|cons d l ih=>simp[SV.noOwns,SV.noOwn,ih]
  exact this as
 obtain⟨hS,rfl⟩:=ap.to_S _ _ _ r1 ho
 simp only[S8] at r6 hb D hS ho⊢
 unfold aO at D
 obtain⟨R,hu,h1,h2⟩:=D
 have E:=(oe hl).1 h2
 obtain⟨L,p,k1⟩:=eI.weak ms' ms J R F2 Z r6 E
 have Q:jE w' (fun b=>M b\/b∈F2) w' (fun b=>M b\/b∈L):=jE.shrink fun b hb=>by
  rcases hb with hb|hb
  ·exact .inl hb
  ·exact .inr (p.subset hb)
 have e:∀ b∈F2,¬ M b:=fun b r8 a=>by
  have:=(hM b a)
  rcases(hb b r8).1 with c|v0
  ·exact this.2 c
  ·omega
 refine⟨v,[],L,rfl,ap.of_S _ _ (an.ext Q _ _ hS), ?_,(S8 L).symm▸p.nodup r6,fun b h6=>hb b (p.subset (by simpa using h6)),hc⟩
 unfold aO
 refine⟨R,hu,h1,(oe (by rw[A5 Z];exact hl)).2 (k1 _ (fun b h6=> ?_) fun b r8 g h6=> ?_)⟩
 ·rcases h6 with h6|h6
  ·exact .inl h6
  ·exact .inr (p.subset (by simpa using h6))
 ·rcases h6 with h6|h6
  ·exact e b r8 h6
  ·exact g (by simpa using h6)
end Go.Proofs.YtgmnipfafmphaaaGreatDoor

