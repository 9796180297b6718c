/-
  My text.
-/
import Derived.Test.YteaolfcegaidpaaGreatDoorSZEngRu
namespace Go.Proofs.YteaolfcegaidpaaGreatDoor
set_option linter.unusedSimpArgs false
set_option linter.unusedVariables false
open Go.RowKit
section
variable {P:Program} {s:Nat->SV} {h:Nat->Ch} {K:St->Prop} {sos:List SO} {Y R α:Type} {H:α->List DV} {r:R} {a:Option Y} {k:Y->Option R} {dst f id e n:Nat} {args:List SX} {gs:List SV} {c O:List DV} {l:List α}
theorem Sk (l':Y->List α) (Z:a.bind k=some r) (hx:args.map (ev s)= .vec id::gs) (r2:SV.toDVs gs=some c) (hh:h id= .vec e n (bG H l)) (I:∀ a,(H a).length=n) (hs:∀ y,a=some y->bB P f (.own (.sl e (List.replicate n .sh)) (.slice (l.map H))::O.map .d) (.own (.sl e (List.replicate n .sh)) (.slice ((l' y).map H))) (.d .any::O.map .d)) (J:c=O) (hk:∀ y,k y=some r->a6 P K sos ⟨aD (eC dst .any s) dst (.vec dst),aD (hT dst .any (aD h id .dead)) dst (.vec e n (bG H (l' y)))⟩):a6 P K (.p (some dst) (.f f) args::sos) ⟨s,h⟩:=by
 subst J
 cases hy:a with
 |none=>rw[hy] at Z;cases Z
 |some y=>
  rw[hy] at Z
  refine Rk (h5:=⟨s,h⟩) (L:=[(id,.dead)]) (cS.refl _) (hs y hy) rfl ?_ ?_ (hk y Z)
  ·have e1:args.map (ev (St.s ⟨s,h⟩))= .vec id::gs:=hx
   rw[e1]
   exact .move (lF I l) (wZ I l) hh oS (rU r2)
  ·simp only[takes,SV.nOwn,SV.own1,cL,T9,tD I,SV.plug,kd]
   rfl
theorem Rq (l':Y->List α) (Z:a.bind k=some r) (hx:args.map (ev s)= .nils::gs) (r2:SV.toDVs gs=some c) (hs:∀ y,a=some y->bB P f (.own (.sl e (List.replicate n .sh)) (.slice (List.map H []))::O.map .d) (.own (.sl e (List.replicate n .sh)) (.slice ((l' y).map H))) (.d .any::O.map .d)) (J:c=O) (I:∀ a,(H a).length=n) (hk:∀ y,k y=some r->a6 P K sos ⟨aD (eC dst .any s) dst (.vec dst),aD (hT dst .any h) dst (.vec e n (bG H (l' y)))⟩):a6 P K (.p (some dst) (.f f) args::sos) ⟨s,h⟩:=by
 subst J
 cases hy:a with
 |none=>rw[hy] at Z;cases Z
 |some y=>
  rw[hy] at Z
  refine Rk (h5:=⟨s,h⟩) (L:=[]) (cS.refl _) (hs y hy) rfl ?_ ?_ (hk y Z)
  ·have e1:args.map (ev (St.s ⟨s,h⟩))= .nils::gs:=hx
   rw[e1]
   exact .nils (rU r2)
  ·simp only[takes,SV.nOwn,SV.own1,cL,T9,tD I,SV.plug,kd]
   rfl
end
section
variable {σ:St} {α:Type} {H:α->List DV} {N k e n id:Nat} {q:RV} {l r:List α} {as:List DV} {g:SV} {gs:List SV} {p:Nat->SV} {h1:Nat->Ch} {rows:List (List SV)}
theorem Qo (Z:some l=some r) (h7:cS σ ⟨p,h1⟩) (hq:Hg ⟨p,aD h1 id (.vec e n (bG H l))⟩ [q]=some [.vec id]) (hh:h1 id= .vec e n rows) (hr:iv rows (bG H l)) (I:∀ a,(H a).length=n) (hg:gB N ⟨p,h1⟩ k=g::gs) (r2:SV.toDVs gs=some as):
  z_ N k [q] (.own (.sl e (List.replicate n .sh)) (.slice (r.map H))) (.d .any::as.map .d) .ret σ:=by
 cases Z
 have h2:cS ⟨p,h1⟩ ⟨p,aD h1 id (.vec e n (bG H l))⟩:=xd (fun _=> .inl rfl) fun j=>by
  by_cases hj:j=id
  ·subst hj;simp only[aD,T6,hh];exact jV hr
  ·simp only[aD,hj,Tv];exact be rfl
 refine⟨_,cS.trans h7 h2,[.vec id],[.own (.sl e (List.replicate n .sh)) (.slice (l.map H))],[id],hq,rfl,rfl, ?_⟩
 rw[z8 (h2:=h1),hg]
 exact .any (CP (.own (lF I l) (wZ I l) (by simp only[aD,T6]) oS .nil) r2)
end
def Rr (a b i:Nat):Nat:=if i=a then b else if i=b then a else i
theorem Oz (a b i:Nat):Rr a b (Rr a b i)=i:=by
 unfold Rr
 by_cases h1:i=a
 ·subst h1
  rw[Ub rfl]
  by_cases h2:b=i
  ·rw[Ub h2];exact h2
  ·rw[Ul h2,Ub rfl]
 ·rw[Ul h1]
  by_cases h2:i=b
  ·subst h2
   rw[Ub rfl,Ub rfl]
  ·rw[Ul h2,Ul h1,Ul h2]
theorem OA {s:Nat->SV} {h:Nat->Ch} {t a b:Nat} (_:s t= .vec a):cS ⟨s,h⟩ (wX (Rr a b) ⟨s,h⟩):=JV (Oz a b)
attribute [push_cast] Rr
