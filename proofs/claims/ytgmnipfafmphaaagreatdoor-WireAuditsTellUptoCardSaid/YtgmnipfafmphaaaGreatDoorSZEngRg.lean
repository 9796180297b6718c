/-
  My text.
-/
import Derived.Test.YtgmnipfafmphaaaGreatDoorSZEngZz
import Derived.Maps.RangeRun
namespace Go.Proofs.YtgmnipfafmphaaaGreatDoor
set_option linter.unusedSimpArgs false
set_option linter.unusedVariables false
open Go.RowKit
open Go.ChangeMaps (setBlock)
def JN (p:DV×DV) (e:MapEntry):Prop:=fy p.1=some e.key/\fy p.2=some e.val
inductive BV:List (DV×DV)->List MapEntry->Prop
 |nil:BV [] []
 |cons {p e l es}:JN p e->BV l es->BV (p::l) (e::es)
section
variable {c:Cx} {σ:St} {κ:Nat->Value} {φ:Nat->List Nat} {a:Act} {w:World}
structure KQ (c c1:Cx):Prop where
 n:c1.N=c.N
 gs:c1.gs=c.gs
 chg:sG c.B c.A c.w0 c1.w0
 B:c.B<=c1.B
 M0:∀ b,c.M0 b->c1.M0 b
 A:∀ b,c1.A b->c.B<=b\/c.A b
theorem b_.back {c c1:Cx} (hs:KQ c c1) (h0:∀ b,c.M0 b->b<c.B/\¬ c.A b) (hr:b_ c1 σ κ φ a w):b_ c σ κ φ a w:=by
 have hsh:gh w (own c1 φ) w (own c φ):=gh.shrink fun b hb=>by
  rcases hb with hb|hb
  ·exact .inl (hs.M0 b hb)
  ·exact .inr hb
 refine⟨hs.chg.trans (hr.chg.mono hs.B fun b hb ha=> ?_),LO hs.B hr.size,h0,by rw[hr.ntmps,hs.n],hr.defers,hr.kok,fun i hi=> ?_,fun i v hv=> ?_,fun id=>(hr.chunks id).ext hsh fun _ _=>rfl,fun id b hb=>⟨(hr.mine id b hb).1, ?_⟩,hr.nod,hr.sep⟩
 ·rcases hs.A b ha with h|h
  ·omega
  ·exact h
 ·exact ag.ext hsh _ _ (hr.slots i (by rw[hs.n];exact hi))
 ·have:=hr.ghost i v (by rw[hs.gs];exact hv)
  rw[hs.n] at this
  exact ag.ext hsh _ _ this
 ·rcases(hr.mine id b hb).2 with h|h
  ·exact .inl (LO hs.B h)
  ·exact hs.A b h
def p8 (c:Cx) (w:World) (M:Nat->Prop) (φ:Nat->List Nat) (hg:oF w) (hf:Af fun b=>∃ id,b∈φ id):Cx:=⟨w.heap.size,w,M,fun b=>∃ id,b∈φ id,c.N,c.gs,hg,hf,K9 _⟩
theorem xy {w:World} {q b:Nat} {o:Obj} (h:b≠q):(setBlock w q o).heap[b]?=w.heap[b]?:=by
 simp[setBlock,Array.getElem?_setIfInBounds,Ne.symm h]
theorem xz {w:World} {q:Nat} {o:Obj}:(setBlock w q o).heap.size=w.heap.size:=by simp[setBlock]
theorem b_.again {c1:Cx} (hr:b_ c1 σ κ φ a w) {q:Nat} (hq:c1.M0 q) (hqt:∀ t∈GW,t.1≠q) {o:Obj} {w1:World} (hw:w1=w\/w1=w.drew):
  ∃ (hg:oF (setBlock w1 q o)) (hf:Af fun b=>∃ id,b∈φ id),b_ (p8 c1 (setBlock w1 q o) c1.M0 φ hg hf) σ κ φ a (setBlock w1 q o)/\sG c1.B c1.A c1.w0 w/\w1.heap=w.heap/\w1.os=w.os/\w1.tape=w.tape/\w1.output=w.output:=by
 have hh:w1.heap=w.heap/\w1.os=w.os/\w1.tape=w.tape/\w1.output=w.output:=by rcases hw with rfl|rfl<;>exact⟨rfl,rfl,rfl,rfl⟩
 have hqlt:q<w.heap.size:=hr.own_lt (.inl hq)
 have hkeep:∀ b,b≠q->(setBlock w1 q o).heap[b]?=w.heap[b]?:=fun b hb=>by rw[xy hb,hh.1]
 have hsz:(setBlock w1 q o).heap.size=w.heap.size:=by rw[xz,hh.1]
 have hgood:oF (setBlock w1 q o):=fun t ht=>(hr.good t ht).keep (hkeep _ (hqt t ht))
 have hfree:Af fun b=>∃ id,b∈φ id:=fun t ht hb=>by
  obtain⟨id,hb⟩:=hb
  exact hr.free (id:=id) t ht hb
 have hown:own (p8 c1 (setBlock w1 q o) c1.M0 φ hgood hfree) φ=own c1 φ:=rfl
 have hext:gh w (own c1 φ) (setBlock w1 q o) (own c1 φ):=⟨Nat.le_of_eq hsz.symm,fun b hb hm=>⟨hkeep b fun he=>hm (.inl (he▸hq)),hm⟩⟩
 have hmq:∀ id b,b∈φ id->b≠q:=fun id b hb he=>by
  subst he
  have h1:=hr.m0 b hq
  rcases(hr.mine id b hb).2 with h|h
  ·omega
  ·exact h1.2 h
 refine⟨hgood,hfree,⟨sG.refl _ _ _,K9 _,fun b hb=> ?_,hr.ntmps,hr.defers,hr.kok,fun i hi=> ?_,fun i v hv=> ?_,fun id=> ?_,fun id b hb=> ?_,hr.nod,hr.sep⟩,hr.chg,hh⟩
 ·have h1:=hr.m0 b hb
  have:=hr.size
  refine⟨by show b<(setBlock w1 q o).heap.size;rw[hsz];omega,fun⟨id,hid⟩=> ?_⟩
  rcases(hr.mine id b hid).2 with h|h
  ·omega
  ·exact h1.2 h
 ·rw[hown];exact ag.ext hext _ _ (hr.slots i hi)
 ·rw[hown];exact ag.ext hext _ _ (hr.ghost i v hv)
 ·rw[hown];exact(hr.chunks id).ext hext fun b hb=>hkeep b (hmq id b hb)
 ·exact⟨by rw[hsz];exact(hr.mine id b hb).1,.inr ⟨id,hb⟩⟩
theorem b_.into (hr:b_ c σ κ φ a w) {mid r d2:Nat} (hF:φ mid=[r]) (hd:d2<c.N) (o:Obj):
  ∃ (hg:oF (w.alloc o)) (hf:Af fun b=>∃ id,b∈ak φ mid [] id),b_ (p8 c (w.alloc o) (fun b=>c.M0 b\/b=r\/b=w.heap.size) (ak φ mid []) hg hf) ⟨ak σ.s d2 (.d (.raw (.pointer (some ⟨w.heap.size,0,none⟩)))),ak σ.h mid .dead⟩ κ (ak φ mid []) (a.put (some d2) (.pointer (some ⟨w.heap.size,0,none⟩))) (w.alloc o)/\
   KQ c (p8 c (w.alloc o) (fun b=>c.M0 b\/b=r\/b=w.heap.size) (ak φ mid []) hg hf):=by
 have hB:Below w.heap.size w (w.alloc o):=(Below.refl _ w).alloc (K9 _) o
 have hgood:oF (w.alloc o):=hr.good.below hB
 have hsub:∀ id b,b∈ak φ mid [] id->b∈φ id/\id≠mid:=fun id b hb=>by
  by_cases h:id=mid
  ·subst h;rw[al] at hb;cases hb
  ·rw[aP _ _ _ _ h] at hb;exact⟨hb,h⟩
 have hfree:Af fun b=>∃ id,b∈ak φ mid [] id:=fun t ht hb=>by
  obtain⟨id,hb⟩:=hb
  exact hr.free (id:=id) t ht (hsub id _ hb).1
 have hr':r∈φ mid:=by rw[hF];simp
 have hrlt:r<w.heap.size:=(hr.mine mid r hr').1
 have hown:∀ b,own (p8 c (w.alloc o) (fun b=>c.M0 b\/b=r\/b=w.heap.size) (ak φ mid []) hgood hfree) (ak φ mid []) b->own c φ b\/b=w.heap.size:=by
  rintro b ((h|h|h)|⟨id,h⟩)
  ·exact .inl (.inl h)
  ·subst h;exact .inl (.inr ⟨mid,hr'⟩)
  ·exact .inr h
  ·exact .inl (.inr ⟨id,(hsub id b h).1⟩)
 have hext:gh w (own c φ) (w.alloc o) (own (p8 c (w.alloc o) (fun b=>c.M0 b\/b=r\/b=w.heap.size) (ak φ mid []) hgood hfree) (ak φ mid [])):=⟨hB.size,fun b hb hm=>⟨hB.block b hb,fun h=>by
  rcases hown b h with h|h
  ·exact hm h
  ·omega⟩⟩
 have hput:=(hr.putS (x:= .d (.raw (.pointer (some ⟨w.heap.size,0,none⟩)))) (v:= .pointer (some ⟨w.heap.size,0,none⟩)) hd (by unfold ag aJ;rfl)).drop mid
 have hsz:=hr.size
 refine⟨hgood,hfree,⟨sG.refl _ _ _,K9 _,fun b hb=> ?_,hput.ntmps,hput.defers,hr.kok,fun i hi=> ?_,fun i v hv=> ?_,fun id=> ?_,fun id b hb=> ?_,hput.nod,hput.sep⟩,⟨rfl,rfl,hr.chg.trans (sG.of_below (hB.mono hr.size)),LO hr.size hB.size,fun b hb=> .inl hb, ?_⟩⟩
 ·rcases hb with h|h|h
  ·have h1:=hr.m0 b h
   refine⟨Lz h1.1 (LO hr.size hB.size),fun⟨id,hid⟩=> ?_⟩
   rcases(hr.mine id b (hsub id b hid).1).2 with h2|h2
   ·omega
   ·exact h1.2 h2
  ·subst h
   refine⟨Lz hrlt hB.size,fun⟨id,hid⟩=> ?_⟩
   exact hr.sep id mid b (hsub id b hid).2 (hsub id b hid).1 hr'
  ·subst h
   refine⟨by show w.heap.size<(w.alloc o).heap.size;simp[World.alloc_eq],fun⟨id,hid⟩=> ?_⟩
   have:=(hr.mine id _ (hsub id _ hid).1).1;omega
 ·have h1:=hr.putS (x:= .d (.raw (.pointer (some ⟨w.heap.size,0,none⟩)))) (v:= .pointer (some ⟨w.heap.size,0,none⟩)) hd (by unfold ag aJ;rfl)
  exact ag.ext hext _ _ (h1.slots i hi)
 ·have h1:=hr.putS (x:= .d (.raw (.pointer (some ⟨w.heap.size,0,none⟩)))) (v:= .pointer (some ⟨w.heap.size,0,none⟩)) hd (by unfold ag aJ;rfl)
  exact ag.ext hext _ _ (h1.ghost i v hv)
 ·by_cases h:id=mid
  ·subst h;simp only[al];rfl
  ·simp only[aP _ _ _ _ h];exact(hr.chunks id).ext hext fun b hb=>hB.block b (hr.mine id b hb).1
 ·exact⟨Lz (hr.mine id b (hsub id b hb).1).1 hB.size,.inr ⟨id,hb⟩⟩
 ·rintro b ⟨id,hb⟩
  exact(hr.mine id b (hsub id b hb).1).2
end
section
variable {P:Program} {c:Cx} {σ:St} {κ:Nat->Value} {φ:Nat->List Nat} {a:Act} {w:World}
structure E5 {V S R:Type} (P:Program) (x:SC) (Q:R->AX->St->Prop) (r:R) (b1 b2 d2 dn df de:Nat) (p:Value) (sos:List SO) (f:V->DV) (m:S->St) (step:List UInt8×V->S->Option (S⊕(S⊕R))) (k:S->Option R):Prop where
 hs:∀ s,(m s).s d2= .d (.raw p)/\(m s).s dn= .d .any/\(m s).s df= .d .any
 hq:∀ r,qi (Q r)
 hb:∀ e s o,step e s=some o->aA P (AW P x (iH b2 (wt m (zC b1 m Q) o))) sos ⟨ak (m s).s de (.d (.tup [.str e.1,f e.2])),(m s).h⟩
 hk:∀ s,k s=some r->Q r .normal (m s)
theorem E5.of {V S R:Type} {x:SC} {Q:R->AX->St->Prop} {r:R} {b1 b2 d2 dn df de:Nat} {p:Value} {sos:List SO} {f:V->DV} {m m':S->St} {step:List UInt8×V->S->Option (S⊕(S⊕R))} {k:S->Option R} (hmk:m=m')
  (hs:∀ s,(m' s).s d2= .d (.raw p)/\(m' s).s dn= .d .any/\(m' s).s df= .d .any) (hq:∀ r,qi (Q r))
  (hb:∀ e s o,step e s=some o->aA P (AW P x (iH b2 (wt m' (zC b1 m' Q) o))) sos ⟨ak (m' s).s de (.d (.tup [.str e.1,f e.2])),(m' s).h⟩)
  (hk:∀ s,k s=some r->Q r .normal (m' s)):E5 P x Q r b1 b2 d2 dn df de p sos f m step k:=by
 subst hmk;exact⟨hs,hq,hb,hk⟩
end
end Go.Proofs.YtgmnipfafmphaaaGreatDoor

