/-
  My text.
-/
import Derived.Test.YteaolfcegaidpaaGreatDoorSZEngY
namespace Go.Proofs.YteaolfcegaidpaaGreatDoor
set_option linter.unusedSimpArgs false
set_option linter.unusedVariables false
open Go.RowKit
variable {N:Nat} {P:Program} {R:Type} {as:List DV} {cs:List SV} {dst e:Nat} {h:Nat->Ch} {id:Nat} {ids:List Nat} {ms:List cO} {n sz:Nat} {α:Type} {σ:St} {r:R}
section
variable {P:Program} {s:Nat->SV} {h:Nat->Ch} {K:St->Prop} {sos:List SO} {α:Type} {H:α->List DV}
theorem FS {l:List α} (I:∀ a,(H a).length=n):takes σ [] (some dst) (.own (.sl e (List.replicate n .sh)) (.slice (l.map H)))=some ⟨aD (eC dst .any σ.s) dst (.vec dst),aD (hT dst .any σ.h) dst (.vec e n (bG H l))⟩:=by
 simp only[takes,SV.nOwn,SV.own1,cL,T9,tD I,SV.plug,kd]
 rfl
theorem OQ {l:List α} {n:Int} {x i:SX} {k:IntKind} {kk:α->Option R} (Z:(cm l n).bind kk=some r) (hx:ev s x= .d (.slice (l.map H))) (hi:ev s i= .d (.int k n)) (I:∀ e,(H e).length=sz) (hk:∀ e,cm l n=some e->kk e=some r->a6 P K sos ⟨aD s dst (.d (.ptr (H e))),h⟩):a6 P K (.r dst (.idx sz x i)::sos) ⟨s,h⟩:=by
 cases J:cm l n with
 |none=>rw[J] at Z;cases Z
 |some e=>
  rw[J] at Z
  obtain⟨h1,h2⟩:=J5 (h:=h) hx hi I J
  exact fi h1 h2 (hk e J Z)
end
def dg (ms:List cO) (H:α->List DV) (l:List α):List (List SV):=(l.map H).map (d7 ms)
section
variable {α:Type} {ms:List cO} {H:α->List DV} {l:List α}
theorem vu:(dg ms H l).length=l.length:=by simp[dg]
theorem GW {l2:List α}:dg ms H (l++l2)=dg ms H l++dg ms H l2:=by simp[dg]
theorem Ia (I:∀ a,(H a).length=n):dg (List.replicate n .sh) H l=bG H l:=tD I l
theorem D7 (id:Nat) (o:DV):∀ (l:List α),jG id o (dg ms H l)=dg ms H l
 |[]=>rfl
 |x::l=>by
  have ih:=D7 id o l
  unfold dg at ih⊢
  simp only[S5,jG,A8,ih]
end
section
variable {P:Program} {D:SC} {Q:AX->St->Prop} {s:Nat->SV} {h:Nat->Ch} {K:St->Prop} {sos:List SO} {α β:Type} {H:α->List DV} {B:β->List DV} {ms ms':List cO} {l:List α}
theorem Ib {off:Nat} {v:SV} (ho:off<cs.length):splice cs off [v]=cs.set off v:=by
 unfold splice
 refine List.ext_getElem? fun j=> ?_
 simp only[S6,TN,TJ,S4,List.getElem?_append,Tc,T0,T5,List.getElem?_set]
 have E:min off cs.length=off:=by omega
 by_cases h1:j<off
 ·have:¬ off=j:=by omega
  simp[this,h1]
  omega
 ·by_cases h2:off=j
  ·subst h2
   simp[E,ho]
  ·have h4:¬ j - off<1:=by omega
   simp only[E,h1,Tv,h2,h4,Tq]
   have h5:off+1+(j - off - 1)=j:=by omega
   simp only[h5]
end
section
variable {P:Program} {s:Nat->SV} {h:Nat->Ch} {K:St->Prop} {sos:List SO} {α β:Type} {H:α->List DV} {ms:List cO} {l l2:List α} {x:α}
theorem M7:iv (dg ms H l) (dg ms H l):=iv.rfl
end
def OR (N:Nat) (as:List DV):Nat->SV:=fun j=>if j<N then(match as[j]? with|some d=> .d d|none=> .d .any) else match as[j - N]? with|some d=> .d d|none=> .d .any
theorem CP {h:Nat->Ch} {ys rs:List SV} {ids:List Nat} (hr:pS h ys rs ids):∀ {gs:List SV} {as:List DV},SV.toDVs gs=some as->pS h (gs++ys) (as.map .d++rs) ids
 |[],as,hd=>by simp only[SV.toDVs,SN] at hd;subst hd;exact hr
 |g::gs,as,hd=>by
  unfold SV.toDVs at hd
  split at hd
  ·rename_i d i h1 h2
   simp only[SN] at hd;subst hd
   exact .data h1 (CP hr h2)
  ·cases hd
theorem QA {r0:R} {q:RV} {H:R->List DV} {gs V:List SV} {p:Nat->SV} {h1:Nat->Ch} (Z:some r0=some r) (h7:cS σ ⟨p,h1⟩) (hq:Hg ⟨p,h1⟩ [q]=some [.agg cs]) (hg:gB N ⟨p,h1⟩ n=gs) (r2:SV.toDVs gs=some as) (hr:pS h1 cs V ids) (t:V=d7 ms (H r0)):z_ N n [q] (.agg (d7 ms (H r))) (as.map .d) .ret σ:=by
 cases Z
 subst t
 refine⟨⟨p,h1⟩,h7,[.agg cs],[.agg (d7 ms (H r))],ids,hq,rfl,rfl, ?_⟩
 rw[hg]
 refine CP ?_ r2
 have:=pS.agg (h:=h1) hr (fun i _=>TQ) pS.nil
 simpa using this
theorem OS {α:Type} {H:α->List DV} {ms:List cO} {h:Nat->Ch} {id e n:Nat} {l:List α} {xs rs:List SV} {ids:List Nat} (hh:h id= .vec e n (dg ms H l)) (hn:ms.length=n) (I:∀ a,(H a).length=ms.length) (hi:id∉ids) (hl:pS h xs rs ids):pS h (.vec id::xs) (.own (.sl e ms) (.slice (l.map H))::rs) (id::ids):=by
 subst hn
 exact .own (ch:= .vec e ms.length (dg ms H l)) (mk:= .vec) rfl (by intro r hr;obtain⟨a,_,rfl⟩:=Tu.1 hr;exact I a) hh hi hl
theorem Ic {f k:Nat} {fn:Func} {x:SC} {qs:List RV} {C:SV} {outs:List SV} (hf:P.funcs[f]?=some fn) (o:fits P f fn x qs k=true) (S:fn.ntmps=N) (hk:as.length=k) (O:outs.length=k) (h:AW P x (z_ N k qs C outs) ⟨OR N as,fun _=> .dead⟩):bB P f (as.map .d) C outs:=by
 subst S hk
 have h8:(as.map SV.d).length=as.length:=by simp
 refine za (x:=x) (qs:=qs) hf (by rw[h8];exact o) ?_ (by rw[h8];exact O) ?_
 ·rw[Tp]
  intro y hy
  obtain⟨d,_,rfl⟩:=Tu.1 hy
  rfl
 ·rw[h8]
  have e1:DK fn.ntmps (as.map .d)=OR fn.ntmps as:=by
   funext j
   unfold DK OR
   by_cases h9:j<fn.ntmps
   ·simp only[h9,T6,Tk]
    cases as[j]?<;>simp[yC]
   ·simp only[h9,Tv,Tk]
    cases as[j - fn.ntmps]?<;>simp[yC]
  have e2:ET (as.map .d)=fun _=> .dead:=by
   funext j
   unfold ET
   simp only[Tk]
   cases as[j]?<;>simp[ES]
  rw[e1,e2];exact h
attribute [push_cast] SV.plug SV.plugs OR cO.plains cO.plain D7 vu List.length_set List.set_set
theorem RB {x:SC} {Q:AX->St->Prop} {s:Nat->SV} {rows:List (List SV)} {O:List (List DV)} (hv:h id= .vec e sz rows) (hf:SV.frzR rows=some O) (G:AW P x Q ⟨eC id (.slice O) s,aD (hT id (.slice O) h) id .dead⟩):AW P x Q ⟨s,h⟩:=Ft (gA hv hf) G
