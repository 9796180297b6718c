/-
  My text.
-/
import Derived.Test.YteaolfcegaidpaaGreatDoorSZEngW
namespace Go.Proofs.YteaolfcegaidpaaGreatDoor
set_option linter.unusedSimpArgs false
set_option linter.unusedVariables false
open Go.RowKit
mutual
def M4:cO->cO->Bool
 | .sh,m=>m.plain
 | .sl W ms',.sl e ms=>W==e&&D5 ms' ms
 | .pt _,_=>false
 | .mp _ _,_=>false
 | .bld _ _,_=>false
 | .sl _ _,_=>false
def D5:List cO->List cO->Bool
 |[],[]=>true
 |m'::l',m::l=>M4 m' m&&D5 l' l
 |_,_=>false
end
theorem D6:∀ {l' l:List cO},D5 l' l=true->l'.length=l.length
 |[],[],_=>rfl
 |[],_::_,h=>by simp[D5] at h
 |_::_,[],h=>by simp[D5] at h
 |_::l',_::l,h=>by
  simp only[D5,SR] at h
  simp[D6 h.2]
section
variable {w:World} {M:Nat->Prop}
def GU (M:Nat->Prop) (F:List Nat) (R:(Nat->Prop)->List Nat->Prop):Prop:=
 ∃ J,J.Sublist F/\∀ M':Nat->Prop,(∀ b,M' b->M b)->(∀ b∈F,b∉J->¬ M' b)->R M' J
theorem GU.append {z I:List Nat} {c d:(Nat->Prop)->List Nat->Prop} (hn:(z++I).Nodup) (h1:GU M z c) (h2:GU M I d):
  ∃ G1 G2,(G1++G2).Sublist (z++I)/\∀ M':Nat->Prop,(∀ b,M' b->M b)->(∀ b∈z++I,b∉G1++G2->¬ M' b)->c M' G1/\d M' G2:=by
 obtain⟨G1,p,k1⟩:=h1
 obtain⟨G2,s2,k2⟩:=h2
 obtain⟨U,n2,C⟩:=TC.1 hn
 refine⟨G1,G2,p.append s2,fun M' hM Q=>⟨k1 M' hM fun b hb hg=>Q b (by simp[hb]) ?_,k2 M' hM fun b hb hg=>Q b (by simp[hb]) ?_⟩⟩
 ·simp only[Ta,not_or]
  exact⟨hg,fun a=>C b hb b (s2.subset a) rfl⟩
 ·simp only[Ta,not_or]
  exact⟨fun h3=>C b (p.subset h3) b hb rfl,hg⟩
theorem fz.weak {R:List DV->List Value->List Nat->Prop} {a:(Nat->Prop)->List DV->List Value->List Nat->Prop}:∀ {rows:List (List DV)} {xs:List Value} {G:List Nat},G.Nodup->
  (∀ r ys G',G'.Nodup->R r ys G'->GU M G' fun M' J=>a M' r ys J)->fz R rows xs G->GU M G fun M' J=>fz (a M') rows xs J
 |[],xs,G,_,_,h=>by
  obtain⟨rfl,rfl⟩:=h
  exact⟨[],Us _,fun _ _ _=>⟨rfl,rfl⟩⟩
 |r::rs,xs,G,hn,z,h=>by
  obtain⟨ys,zs,G1,G2,h1,rfl,E,h4⟩:=h
  obtain⟨U,n2,_⟩:=TC.1 hn
  obtain⟨b,c,hs,hk⟩:=GU.append hn (z r ys G1 U E) (fz.weak n2 z h4)
  exact⟨b++c,hs,fun M' hM Q=>⟨ys,zs,b,c,h1,rfl,(hk M' hM Q).1,(hk M' hM Q).2⟩⟩
mutual
theorem eR.weak:∀ (m' m:cO) (d:DV) (v:Value) (F:List Nat),M4 m' m=true->F.Nodup->eR w M m d v F->GU M F fun M' J=>eR w M' m' d v J
 | .sh,m,d,v,F,Z,hn,h=>by
  refine⟨[],List.nil_sublist _,fun M' hM Q=> ?_⟩
  unfold eR
  refine⟨rfl,DN (κ:=κ0) hM (.own m d) v F d (fun b hb=>Q b hb oS) (by unfold aQ;exact h) (by simp only[SV.thaw];rw[Ub (by simpa only[M4] using Z)])⟩
 | .sl W ms',.sl e ms,d,v,F,Z,hn,h=>by
  simp only[M4,SR,S1] at Z
  obtain⟨rfl,Z⟩:=Z
  unfold eR at h
  obtain⟨rows,xs,G,hd,ho,h1,h2,E,rfl⟩:=h
  obtain⟨U,n2,C⟩:=TC.1 hn
  obtain⟨G',p,k1⟩:=fz.weak (a:=fun M' r ys G'=>ex w M' ms' r ys G') n2 (fun r ys G' t hr=>ex.weak ms' ms r ys G' Z t hr) E
  refine⟨hP v++G',(Us _).append p,fun M' hM Q=> ?_⟩
  unfold eR
  have hl:=D6 Z
  refine⟨rows,xs,G',hd,by rw[hl];exact ho,h1,by rw[hl];exact h2,k1 M' hM fun b hb hg=>Q b (by simp[hb]) ?_,rfl⟩
  simp only[Ta,not_or]
  exact⟨fun hv=>C b hv b hb rfl,hg⟩
 | .sl _ _,.sh,_,_,_,Z,_,_=>by simp[M4] at Z
 | .sl _ _,.pt _,_,_,_,Z,_,_=>by simp[M4] at Z
 | .sl _ _,.mp _ _,_,_,_,Z,_,_=>by simp[M4] at Z
 | .sl _ _,.bld _ _,_,_,_,Z,_,_=>by simp[M4] at Z
 | .pt _,_,_,_,_,Z,_,_=>by simp[M4] at Z
 | .mp _ _,_,_,_,_,Z,_,_=>by simp[M4] at Z
 | .bld _ _,_,_,_,_,Z,_,_=>by simp[M4] at Z
theorem ex.weak:∀ (ms' ms:List cO) (O:List DV) (vs:List Value) (F:List Nat),D5 ms' ms=true->F.Nodup->ex w M ms O vs F->GU M F fun M' J=>ex w M' ms' O vs J
 |[],[],O,vs,F,Z,hn,h=>by
  unfold ex at h
  obtain⟨rfl,rfl,rfl⟩:=h
  exact⟨[],Us _,fun _ _ _=>by unfold ex;exact⟨rfl,rfl,rfl⟩⟩
 |[],_::_,_,_,_,Z,_,_=>by simp[D5] at Z
 |_::_,[],_,_,_,Z,_,_=>by simp[D5] at Z
 |m'::ms',m::ms,O,vs,F,Z,hn,h=>by
  simp only[D5,SR] at Z
  unfold ex at h
  obtain⟨d,i,v,A,z,I,h1,h2,rfl,E,h4⟩:=h
  obtain⟨U,n2,_⟩:=TC.1 hn
  obtain⟨b,c,hs,hk⟩:=GU.append hn (eR.weak m' m d v z Z.1 U E) (ex.weak ms' ms i A I Z.2 n2 h4)
  exact⟨b++c,hs,fun M' hM Q=>by unfold ex;exact⟨d,i,v,A,b,c,h1,h2,rfl,(hk M' hM Q).1,(hk M' hM Q).2⟩⟩
end
end
theorem bB.weak {P:Program} {f:FuncId} {as:List DV} {ms ms':List cO} {O:List DV} (h:bB P f (as.map .d) (.agg (d7 ms O)) (as.map .d)) (hl:O.length=ms.length) (Z:D5 ms' ms=true):bB P f (as.map .d) (.agg (d7 ms' O)) (as.map .d):=by
 refine⟨h.1,fun w M vs F hM Q hn hv k n=> ?_⟩
 refine(h.2 w M vs F hM Q hn hv k n).mono ?_
 rintro ev w' ⟨v,z,I,rfl,ho,hr,y,hb,hc⟩
 have r6:SV.noOwns (as.map SV.d)=true:=by
  have:∀ (l:List DV),SV.noOwns (l.map .d)=true:=fun l=>by induction l with|nil=>rfl|cons d l ih=>simp[SV.noOwns,SV.noOwn,ih]
  exact this as
 obtain⟨hS,rfl⟩:=ar.to_S _ _ _ r6 ho
 simp only[Tb] at y hb hr hS ho⊢
 unfold aQ at hr
 obtain⟨us,hu,h1,h2⟩:=hr
 have E:=(sc hl).1 h2
 obtain⟨J,p,k1⟩:=ex.weak ms' ms O us I Z y E
 have N:lA w' (fun b=>M b\/b∈I) w' (fun b=>M b\/b∈J):=lA.shrink fun b hb=>by
  rcases hb with hb|hb
  ·exact .inl hb
  ·exact .inr (p.subset hb)
 have e:∀ b∈I,¬ M b:=fun b s0 a=>by
  have:=(hM b a)
  rcases(hb b s0).1 with c|w0
  ·exact this.2 c
  ·omega
 refine⟨v,[],J,rfl,ar.of_S _ _ (an.ext N _ _ hS), ?_,(Tb J).symm▸p.nodup y,fun b h6=>hb b (p.subset (by simpa using h6)),hc⟩
 unfold aQ
 refine⟨us,hu,h1,(sc (by rw[D6 Z];exact hl)).2 (k1 _ (fun b h6=> ?_) fun b s0 g h6=> ?_)⟩
 ·rcases h6 with h6|h6
  ·exact .inl h6
  ·exact .inr (p.subset (by simpa using h6))
 ·rcases h6 with h6|h6
  ·exact e b s0 h6
  ·exact g (by simpa using h6)
