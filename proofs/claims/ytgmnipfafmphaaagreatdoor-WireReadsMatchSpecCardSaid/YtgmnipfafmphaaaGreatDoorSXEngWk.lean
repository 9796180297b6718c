/-
  My text.
-/
import Derived.Test.YtgmnipfafmphaaaGreatDoorSXEngW
namespace Go.Proofs.YtgmnipfafmphaaaGreatDoor
set_option linter.unusedSimpArgs false
set_option linter.unusedVariables false
open Go.RowKit
mutual
def NX:bH->bH->Bool
 | .sh,m=>m.plain
 | .sl e' S,.sl e ms=>e'==e&&DK S ms
 | .pt _,_=>false
 | .mp _ _,_=>false
 | .bld _ _,_=>false
 | .sl _ _,_=>false
def DK:List bH->List bH->Bool
 |[],[]=>true
 |m'::l',m::l=>NX m' m&&DK l' l
 |_,_=>false
end
theorem DL:∀ {l' l:List bH},DK l' l=true->l'.length=l.length
 |[],[],_=>rfl
 |[],_::_,h=>by simp[DK] at h
 |_::_,[],h=>by simp[DK] at h
 |_::l',_::l,h=>by
  simp only[DK,Vj] at h
  simp[DL h.2]
section
variable {w:World} {M:Nat->Prop}
def GY (M:Nat->Prop) (F:List Nat) (R:(Nat->Prop)->List Nat->Prop):Prop:=
 ∃ F',F'.Sublist F/\∀ M':Nat->Prop,(∀ b,M' b->M b)->(∀ b∈F,b∉F'->¬ M' b)->R M' F'
theorem GY.append {N R:List Nat} {c R2:(Nat->Prop)->List Nat->Prop} (hn:(N++R).Nodup) (h1:GY M N c) (h2:GY M R R2):
  ∃ G1 G2,(G1++G2).Sublist (N++R)/\∀ M':Nat->Prop,(∀ b,M' b->M b)->(∀ b∈N++R,b∉G1++G2->¬ M' b)->c M' G1/\R2 M' G2:=by
 obtain⟨G1,u,k1⟩:=h1
 obtain⟨G2,s2,k2⟩:=h2
 obtain⟨o,V,t⟩:=V6.1 hn
 refine⟨G1,G2,u.append s2,fun M' hM B=>⟨k1 M' hM fun b hb L=>B b (by simp[hb]) ?_,k2 M' hM fun b hb L=>B b (by simp[hb]) ?_⟩⟩
 ·simp only[VM,not_or]
  exact⟨L,fun k=>t b hb b (s2.subset k) rfl⟩
 ·simp only[VM,not_or]
  exact⟨fun q=>t b (u.subset q) b hb rfl,L⟩
theorem gW.weak {R:List DV->List Value->List Nat->Prop} {a:(Nat->Prop)->List DV->List Value->List Nat->Prop}:∀ {rows:List (List DV)} {xs:List Value} {G:List Nat},G.Nodup->
  (∀ r ys G',G'.Nodup->R r ys G'->GY M G' fun M' F'=>a M' r ys F')->gW R rows xs G->GY M G fun M' F'=>gW (a M') rows xs F'
 |[],xs,G,_,_,h=>by
  obtain⟨rfl,rfl⟩:=h
  exact⟨[],W3 _,fun _ _ _=>⟨rfl,rfl⟩⟩
 |r::rs,xs,G,hn,t,h=>by
  obtain⟨ys,zs,G1,G2,h1,rfl,E,h4⟩:=h
  obtain⟨o,V,_⟩:=V6.1 hn
  obtain⟨b,c,hs,hk⟩:=GY.append hn (t r ys G1 o E) (gW.weak V t h4)
  exact⟨b++c,hs,fun M' hM B=>⟨ys,zs,b,c,h1,rfl,(hk M' hM B).1,(hk M' hM B).2⟩⟩
mutual
theorem f8.weak:∀ (m' m:bH) (d:DV) (v:Value) (F:List Nat),NX m' m=true->F.Nodup->f8 w M m d v F->GY M F fun M' F'=>f8 w M' m' d v F'
 | .sh,m,d,v,F,Z,hn,h=>by
  refine⟨[],List.nil_sublist _,fun M' hM B=> ?_⟩
  unfold f8
  refine⟨rfl,Dv (κ:=κ0) hM (.own m d) v F d (fun b hb=>B b hb oS) (by unfold aT;exact h) (by simp only[SV.thaw];rw[Wy (by simpa only[NX] using Z)])⟩
 | .sl e' S,.sl e ms,d,v,F,Z,hn,h=>by
  simp only[NX,Vj,Vz] at Z
  obtain⟨rfl,Z⟩:=Z
  unfold f8 at h
  obtain⟨rows,xs,G,hd,ho,h1,h2,E,rfl⟩:=h
  obtain⟨o,V,t⟩:=V6.1 hn
  obtain⟨G',u,k1⟩:=gW.weak (a:=fun M' r ys G'=>f2 w M' S r ys G') V (fun r ys G' hG D=>f2.weak S ms r ys G' Z hG D) E
  refine⟨gT v++G',(W3 _).append u,fun M' hM B=> ?_⟩
  unfold f8
  have hl:=DL Z
  refine⟨rows,xs,G',hd,by rw[hl];exact ho,h1,by rw[hl];exact h2,k1 M' hM fun b hb L=>B b (by simp[hb]) ?_,rfl⟩
  simp only[VM,not_or]
  exact⟨fun hv=>t b hv b hb rfl,L⟩
 | .sl _ _,.sh,_,_,_,Z,_,_=>by simp[NX] at Z
 | .sl _ _,.pt _,_,_,_,Z,_,_=>by simp[NX] at Z
 | .sl _ _,.mp _ _,_,_,_,Z,_,_=>by simp[NX] at Z
 | .sl _ _,.bld _ _,_,_,_,Z,_,_=>by simp[NX] at Z
 | .pt _,_,_,_,_,Z,_,_=>by simp[NX] at Z
 | .mp _ _,_,_,_,_,Z,_,_=>by simp[NX] at Z
 | .bld _ _,_,_,_,_,Z,_,_=>by simp[NX] at Z
theorem f2.weak:∀ (S ms:List bH) (J:List DV) (vs:List Value) (F:List Nat),DK S ms=true->F.Nodup->f2 w M ms J vs F->GY M F fun M' F'=>f2 w M' S J vs F'
 |[],[],J,vs,F,Z,hn,h=>by
  unfold f2 at h
  obtain⟨rfl,rfl,rfl⟩:=h
  exact⟨[],W3 _,fun _ _ _=>by unfold f2;exact⟨rfl,rfl,rfl⟩⟩
 |[],_::_,_,_,_,Z,_,_=>by simp[DK] at Z
 |_::_,[],_,_,_,Z,_,_=>by simp[DK] at Z
 |m'::S,m::ms,J,vs,F,Z,hn,h=>by
  simp only[DK,Vj] at Z
  unfold f2 at h
  obtain⟨d,i,v,A,N,R,h1,h2,rfl,E,h4⟩:=h
  obtain⟨o,V,_⟩:=V6.1 hn
  obtain⟨b,c,hs,hk⟩:=GY.append hn (f8.weak m' m d v N Z.1 o E) (f2.weak S ms i A R Z.2 V h4)
  exact⟨b++c,hs,fun M' hM B=>by unfold f2;exact⟨d,i,v,A,b,c,h1,h2,rfl,(hk M' hM B).1,(hk M' hM B).2⟩⟩
end
end
theorem bw.weak {P:Program} {f:FuncId} {as:List DV} {ms S:List bH} {J:List DV} (h:bw P f (as.map .d) (.agg (bA ms J)) (as.map .d)) (hl:J.length=ms.length) (Z:DK S ms=true):bw P f (as.map .d) (.agg (bA S J)) (as.map .d):=by
 refine⟨h.1,fun w M vs F hM B hn hv k y=> ?_⟩
 refine(h.2 w M vs F hM B hn hv k y).mono ?_
 rintro ev w' ⟨v,N,R,rfl,ho,D,G,hb,hc⟩
 have r2:SV.noOwns (as.map SV.d)=true:=by
  have:∀ (l:List DV),SV.noOwns (l.map .d)=true:=fun l=>by induction l with|nil=>rfl|cons d l ih=>simp[SV.noOwns,SV.noOwn,ih]
  exact this as
 obtain⟨hS,rfl⟩:=az.to_S _ _ _ r2 ho
 simp only[VC] at G hb D hS ho⊢
 unfold aT at D
 obtain⟨X,hu,h1,h2⟩:=D
 have E:=(rQ hl).1 h2
 obtain⟨F',u,k1⟩:=f2.weak S ms J X R Z G E
 have Q:mG w' (fun b=>M b\/b∈R) w' (fun b=>M b\/b∈F'):=mG.shrink fun b hb=>by
  rcases hb with hb|hb
  ·exact .inl hb
  ·exact .inr (u.subset hb)
 have e:∀ b∈R,¬ M b:=fun b s5 a=>by
  have:=(hM b a)
  rcases(hb b s5).1 with c|v0
  ·exact this.2 c
  ·omega
 refine⟨v,[],F',rfl,az.of_S _ _ (av.ext Q _ _ hS), ?_,(VC F').symm▸u.nodup G,fun b h6=>hb b (u.subset (by simpa using h6)),hc⟩
 unfold aT
 refine⟨X,hu,h1,(rQ (by rw[DL Z];exact hl)).2 (k1 _ (fun b h6=> ?_) fun b s5 g h6=> ?_)⟩
 ·rcases h6 with h6|h6
  ·exact .inl h6
  ·exact .inr (u.subset (by simpa using h6))
 ·rcases h6 with h6|h6
  ·exact e b s5 h6
  ·exact g (by simpa using h6)
