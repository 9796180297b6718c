/-
  My text.
-/
import Derived.Test.YtgmnipfafmphaaaGreatDoorSXEngU
namespace Go.Proofs.YtgmnipfafmphaaaGreatDoor
set_option linter.unusedSimpArgs false
set_option linter.unusedVariables false
open Go.RowKit
variable {A B C D:Type} {F:List Nat} {M:Nat->Prop} {O:St} {R S:Type} {X:SC} {Y:SV} {a:List (List SV)} {args:List SX} {as:List DV} {b:List (List SV)} {d d' d0:DV} {dst e f:Nat} {h:Nat->Ch} {hi:Option Int} {i id:Nat} {j:Option SX} {late:List (Nat×Nat×sA)} {lo:Option Int} {n off:Nat} {p:SX} {qs:List RV} {rs:List (List SV)} {s:Nat->SV} {sz:Nat} {v:Value} {vs:List SV} {w:World} {x':SV} {xs ys:List SV} {α:Type} {κ:Nat->Value} {σ:St} {H:α->List DV} {Q:R->AX->St->Prop} {c:C} {enc:A->DV} {k:S->Option R} {kk:α->Option R} {l:List α} {m:Option R} {mk:S->St} {o:S⊕R} {r:R} {s' s0:S} {step:S->Option (S⊕(S⊕R))}
def GR (n:Int):List DV:=[.int .i64 n]
def ej (b:UInt8):List DV:=[.int .u8 b.toNat]
def dr (s:List UInt8):List DV:=[.str s]
def Tu (b:Bool):List DV:=[.bool b]
def hY (H:α->List DV) (l:List α):List DV:=[.slice (l.map H)]
def aY (H:α->List DV) (l:List α):List (List SV):=(l.map H).map dR
def gq (n:Nat):Option Unit:=if n<=137438953472 then some () else none
theorem nT {u:Unit}:gq n=some u↔n<=137438953472:=by unfold gq;split<;>simp_all
def ew (c:Option Unit) (m:Option R):Option R:=c.bind fun _=>m
def GS (mk:S->St) (Q:R->AX->St->Prop):S⊕R->AX->St->Prop
 | .inl s',.normal,σ=>bt σ (mk s')
 | .inr r,.exit i,σ=>Q r (.exit i) σ
 | .inr r,.ret,σ=>Q r .ret σ
 |_,_,_=>False
def bZ {T:Type} (k:T->Option R):T⊕R->Option R
 | .inl t=>k t
 | .inr r=>some r
def gr (m:Option R):Option (S⊕R):=m.map .inr
section
variable {P:Program} {x y:SC} {σ:St} {s:Nat->SV} {h:Nat->Ch} {K:St->Prop} {sos:List SO}
theorem bz {b:Bool} {m1 m2:Option R} {Q:AX->St->Prop} {t:SX} (Z:(bif b then m1 else m2)=some r) (hc:ev s t= .d (.bool b)) (hx:m1=some r->AW P x Q ⟨s,h⟩) (hy:m2=some r->AW P y Q ⟨s,h⟩):AW P (.cond t x y) Q ⟨s,h⟩:=by
 refine Gy hc (fun e=> ?_) (fun e=> ?_)
 ·subst e;exact hx Z
 ·subst e;exact hy Z
theorem R7 (mk:S->St) {step:S->Option (S⊕R)} (Z:bn step s0=some r) (h0:bt σ (mk s0)) (hb:∀ s o,step s=some o->AW P x (GS mk Q o) (mk s)):AW P (.loop x) (Q r) σ:=by
 obtain⟨n,hn⟩:=yC.1 Z
 refine Nb (fun m σ=>∃ s,σ=mk s/\oF step m s=some r) n ⟨_,h0,s0,rfl,hn⟩ ?_
 rintro m _ ⟨s,rfl,hl⟩
 cases m with
 |zero=>simp[oF] at hl
 |succ m=>
  simp only[oF] at hl
  split at hl
  ·rename_i s' hs
   refine Gv (fun e O he=> ?_) (hb s _ hs)
   cases e with
   |normal=>exact⟨m,mk s',by omega,he,s',rfl,hl⟩
   |exit i=>exact he.elim
   |ret=>exact he.elim
  ·rename_i J hs
   simp only[Vi] at hl;subst hl
   refine Gv (fun e O he=> ?_) (hb s _ hs)
   cases e with
   |normal=>exact he.elim
   |exit i=>exact he
   |ret=>exact he
  ·cases hl
theorem cg {M:St} (Z:some (.inl s')=some o) (hM:mk s'=M) (hi:bt σ M):GS mk Q o .normal σ:=by
 cases Z;subst hM;exact hi
theorem cb (Z:gr m=some o) (hi:∀ r,m=some r->Q r (.exit i) σ):GS mk Q o (.exit i) σ:=by
 cases m with
 |none=>cases Z
 |some r=>cases Z;exact hi r rfl
theorem fl (Z:gr m=some o) (hi:∀ r,m=some r->Q r .ret σ):GS mk Q o .ret σ:=by
 cases m with
 |none=>cases Z
 |some r=>cases Z;exact hi r rfl
theorem eH {r0:R} {enc:R->DV} (Z:some r0=some r) (G:vX σ qs=some d) (he:d=enc r0):Jv qs (enc r) .ret σ:=by
 cases Z;subst he;exact⟨σ,bt.refl σ,G⟩
theorem GU {r:A×B} {a:A} {b:B} {enc:A×B->DV} (Z:some (a,b)=some r) (G:vX σ qs=some d') (h0:enc (a,b)=d0) (he:d'=d0):Jv qs (enc r) .ret σ:=eH Z G (he.trans h0.symm)
theorem NN {r:A×B×C} {a:A} {b:B} {enc:A×B×C->DV} (Z:some (a,b,c)=some r) (G:vX σ qs=some d') (h0:enc (a,b,c)=d0) (he:d'=d0):Jv qs (enc r) .ret σ:=eH Z G (he.trans h0.symm)
theorem R8 {r:A×B×C×D} {a:A} {b:B} {d:D} {enc:A×B×C×D->DV} (Z:some (a,b,c,d)=some r) (G:vX σ qs=some d') (h0:enc (a,b,c,d)=d0) (he:d'=d0):Jv qs (enc r) .ret σ:=eH Z G (he.trans h0.symm)
theorem JI {E:Type} {r:A×B×C×D×E} {a:A} {b:B} {d:D} {e:E} {enc:A×B×C×D×E->DV} (Z:some (a,b,c,d,e)=some r) (G:vX σ qs=some d') (h0:enc (a,b,c,d,e)=d0) (he:d'=d0):Jv qs (enc r) .ret σ:=eH Z G (he.trans h0.symm)
theorem eo {v v0:Bool} {u:Nat} (Z:some v0=some v) (G:s u= .d (.bool v0)):Ii u v ⟨s,h⟩:=by
 cases Z;exact G
def zn (Q:AX->St->Prop):Prop:=∀ e σ O,bt σ O->Q e O->Q e σ
theorem bL {Q:AX->St->Prop} (hq:zn Q):zn (Na P y Q):=by
 intro e σ O hi h
 cases e with
 |normal=>exact p2 hi h
 |exit i=>exact hq _ _ _ hi h
 |ret=>exact hq _ _ _ hi h
theorem jE {Q:AX->St->Prop} {b:Nat} (hq:zn Q):zn (pG b Q):=by
 intro e σ O hi h
 cases e with
 |normal=>exact hq _ _ _ hi h
 |exit i=>simp only[pG] at h⊢;split at h<;>rename_i hb<;>simp only[hb,VW,VQ]<;>exact hq _ _ _ hi h
 |ret=>exact hq _ _ _ hi h
theorem dU {res:DV}:zn (Jv qs res):=by
 intro e σ O hi h
 cases e with
 |normal=>obtain⟨z,h1,h2⟩:=h;exact⟨z,hi.trans h1,h2⟩
 |exit i=>exact h
 |ret=>obtain⟨z,h1,h2⟩:=h;exact⟨z,hi.trans h1,h2⟩
theorem fp {N:Nat} {res:SV} {outs:List SV}:zn (BO N n qs res outs):=by
 intro e σ O hi h
 cases e with
 |normal=>obtain⟨z,h1,h2⟩:=h;exact⟨z,hi.trans h1,h2⟩
 |exit i=>exact h
 |ret=>obtain⟨z,h1,h2⟩:=h;exact⟨z,hi.trans h1,h2⟩
theorem mZ (hq:∀ r,zn (Q r)):zn (GS mk Q o):=by
 intro e σ O hi h
 cases o with
 |inl s'=>cases e with
  |normal=>exact hi.trans h
  |exit i=>exact h
  |ret=>exact h
 |inr r=>cases e with
  |normal=>exact h
  |exit i=>exact hq r _ _ _ hi h
  |ret=>exact hq r _ _ _ hi h
def JJ (b:Nat) (mk:S->St) (Q:R->AX->St->Prop):S⊕R->AX->St->Prop
 | .inl s',.exit i,σ=>i=b/\bt σ (mk s')
 | .inr r,.exit i,σ=>i≠b/\Q r (.exit i) σ
 | .inr r,.ret,σ=>Q r .ret σ
 |_,_,_=>False
theorem m8 {b:Nat} (hq:∀ r,zn (Q r)):zn (JJ b mk Q o):=by
 intro e σ O hi h
 cases o with
 |inl s'=>cases e with
  |normal=>exact h
  |exit i=>exact⟨h.1,hi.trans h.2⟩
  |ret=>exact h
 |inr r=>cases e with
  |normal=>exact h
  |exit i=>exact⟨h.1,hq r _ _ _ hi h.2⟩
  |ret=>exact hq r _ _ _ hi h
theorem dV {b:Nat} {M:St} (Z:some (.inl s')=some o) (hM:mk s'=M) (hi:bt σ M):JJ b mk Q o (.exit b) σ:=by
 cases Z;subst hM;exact⟨rfl,hi⟩
theorem kf {b:Nat} (Z:gr m=some o) (hi:∀ r,m=some r->Q r .ret σ):JJ b mk Q o .ret σ:=by
 cases m with
 |none=>cases Z
 |some r=>cases Z;exact hi r rfl
theorem PW {b:Nat} (mk:C->S->St) (Z:(bn step s0).bind (bZ k)=some r) (h0:bt σ (mk c s0)) (hq:∀ r,zn (Q r)) (hb:∀ s o,step s=some o->AW P x (GS (mk c) (JJ b (mk c) Q) o) (mk c s)) (hk:∀ s,k s=some r->Q r .normal (mk c s)):AW P (.block b (.loop x)) (Q r) σ:=by
 cases ha:bn step s0 with
 |none=>rw[ha] at Z;cases Z
 |some o=>
  rw[ha] at Z
  refine bu (Gv (fun e O he=> ?_) (R7 (mk c) ha h0 hb))
  cases o with
  |inl t=>
   cases e with
   |normal=>exact he.elim
   |exit i=>obtain⟨h1,h2⟩:=he;subst h1;exact p3 (hq r _ _ _ h2 (hk t Z))
   |ret=>exact he.elim
  |inr J=>
   simp only[Vh,bZ,Vi] at Z;subst Z
   cases e with
   |normal=>exact he.elim
   |exit i=>exact oB he.1 he.2
   |ret=>exact he
theorem PX {b:Nat} (hX:X= .block b (.loop x)) (mk:C->S->St) {mk':S->St} {M:St} (Z:(bn step s0).bind (bZ k)=some r) (hM:mk c s0=M) (h0:bt σ M) (r9:mk c=mk') (hq:∀ r,zn (Q r)) (hb:∀ s o,step s=some o->AW P x (GS mk' (JJ b mk' Q) o) (mk' s)) (hk:∀ s,k s=some r->Q r .normal (mk' s)):AW P X (Q r) σ:=by
 subst r9 hM;rw[hX];exact PW mk Z h0 hq hb hk
structure dc (A B:Prop):Prop where
 a:A
 b:B
structure eI {S R:Type} (P:Program) (x:SC) (Q:R->AX->St->Prop) (r:R) (b:Nat) (m:S->St) (step:S->Option (S⊕(S⊕R))) (k:S->Option R):Prop where
 hq:∀ r,zn (Q r)
 hb:∀ s o,step s=some o->AW P x (GS m (JJ b m Q) o) (m s)
 hk:∀ s,k s=some r->Q r .normal (m s)
theorem eI.of {b:Nat} {m m':S->St} (r9:m=m') (hq:∀ r,zn (Q r)) (hb:∀ s o,step s=some o->AW P x (GS m' (JJ b m' Q) o) (m' s)) (hk:∀ s,k s=some r->Q r .normal (m' s)):eI P x Q r b m step k:=by
 subst r9;exact⟨hq,hb,hk⟩
theorem aH {b:Nat} (hX:X= .block b (.loop x)) (mk:C->S->St) {M:St} (Z:(bn step s0).bind (bZ k)=some r) (hM:mk c s0=M) (h:dc (bt σ M) (eI P x Q r b (mk c) step k)):AW P X (Q r) σ:=PX hX mk Z hM h.a rfl h.b.hq h.b.hb h.b.hk
theorem UG {a:Option A} {k:A->Option R} (Z:a.bind k=some r) (ha:SV.toDVs (args.map (ev s))=some as) (hs:∀ x,a=some x->ac P f as (enc x)) (hk:∀ x,k x=some r->aI P K sos ⟨ap s dst (.d (enc x)),h⟩):aI P K (.c dst (.f f) args::sos) ⟨s,h⟩:=by
 cases hx:a with
 |none=>rw[hx] at Z;cases Z
 |some x=>rw[hx] at Z;exact Vc ha (hs x hx) (hk x Z)
theorem lE {a:Option A} {k:A->Option R} {b:List DV} (Z:a.bind k=some r) (ha:SV.toDVs (args.map (ev s))=some b) (hs:∀ x,a=some x->ac P f as (enc x)) (he:b=as) (hk:∀ x,k x=some r->aI P K sos ⟨ap s dst (.d (enc x)),h⟩):aI P K (.c dst (.f f) args::sos) ⟨s,h⟩:=by
 subst he;exact UG Z ha hs hk
theorem Tv {a:Option A} {k:A->Option R} (Z:a.bind k=some r) (ha:SV.lends h (args.map (ev s))=some as) (hs:∀ x,a=some x->ac P f as (enc x)) (C:∀ x,(enc x).flat=true) (hk:∀ x,k x=some r->aI P K sos ⟨ap s dst (.d (enc x)),h⟩):aI P K (.c dst (.f f) args::sos) ⟨s,h⟩:=by
 cases hx:a with
 |none=>rw[hx] at Z;cases Z
 |some x=>rw[hx] at Z;exact UA ha (hs x hx) (C x) (hk x Z)
theorem KE {a:Option A} {k:A->Option R} {t:Nat} {caps:List DV} (Z:a.bind k=some r) (C:s t= .d (.fn f caps)) (ha:SV.toDVs (args.map (ev s))=some as) (hs:∀ x,a=some x->ac P f (as++caps) (enc x)) (hk:∀ x,k x=some r->aI P K sos ⟨ap s dst (.d (enc x)),h⟩):aI P K (.c dst (.t t) args::sos) ⟨s,h⟩:=by
 cases hx:a with
 |none=>rw[hx] at Z;cases Z
 |some x=>rw[hx] at Z;exact Uz C ha (hs x hx) (hk x Z)
theorem dy {op:sA} (G:aI P K (.r dst op::sos) ⟨s,h⟩):aI P K (.o dst op::sos) ⟨s,h⟩:=by
 simp only[aI,AO] at G⊢
 split at G
 ·rename_i p v D;exact⟨⟨s,h⟩,bt.refl _,p,v,D,G.1,G.2⟩
 ·exact G.elim
theorem GV {n:Int} {e:α} {x i:SX} {k:IntKind} (hx:ev s x= .d (.slice (l.map H))) (hi:ev s i= .d (.int k n)) (F:∀ e,(H e).length=sz) (he:aV l n=some e):
  rd h s (.idx sz x i)=some (0<=n/\(H e).length=sz,.d (.ptr (H e)))/\0<=n/\(H e).length=sz:=by
 unfold aV at he
 split at he
 ·rename_i h0
  refine⟨?_,h0,F e⟩
  simp only[rd,hi,hx,V5,he,WJ]
 ·cases he
theorem ep {n:Int} {x i:SX} {k:IntKind} (Z:(aV l n).bind kk=some r) (hx:ev s x= .d (.slice (l.map H))) (hi:ev s i= .d (.int k n)) (F:∀ e,(H e).length=sz) (hk:∀ e,kk e=some r->aI P K sos ⟨ap s dst (.d (.ptr (H e))),h⟩):aI P K (.r dst (.idx sz x i)::sos) ⟨s,h⟩:=by
 cases he:aV l n with
 |none=>rw[he] at Z;cases Z
 |some e=>
  rw[he] at Z
  obtain⟨h1,h2⟩:=GV (h:=h) hx hi F he
  exact jj h1 h2 (hk e Z)
theorem uD {l:List UInt8} {n:Int} {x i:SX} {k:IntKind} {kk:UInt8->Option R} (Z:(aV l n).bind kk=some r) (hx:ev s x= .d (.str l)) (hi:ev s i= .d (.int k n)) (hk:∀ e,kk e=some r->aI P K sos ⟨ap s dst (.d (.int .u8 (e.toNat:Int))),h⟩):aI P K (.r dst (.sidx x i)::sos) ⟨s,h⟩:=by
 cases he:aV l n with
 |none=>rw[he] at Z;cases Z
 |some e=>
  rw[he] at Z
  unfold aV at he
  split at he
  ·rename_i h0
   refine jj (p:=0<=n) (v:= .d (.int .u8 e.toNat)) ?_ h0 (hk e Z)
   simp only[rd,hi,hx,he]
  ·cases he
theorem wc {x:SX} {i:Option SX} {kk:List α->Option R} (Z:(b5 l (lo.getD 0) (hi.getD l.length)).bind kk=some r) (hx:ev s x= .d (.slice (l.map H))) (hl:Cf s i=some lo) (hh:Cf s j=some hi) (F:∀ e,(H e).length=sz) (hk:∀ e,kk e=some r->aI P K sos ⟨ap s dst (.d (.slice (e.map H))),h⟩):aI P K (.r dst (.slc sz x i j)::sos) ⟨s,h⟩:=by
 cases he:b5 l (lo.getD 0) (hi.getD l.length) with
 |none=>rw[he] at Z;cases Z
 |some e=>
  rw[he] at Z
  unfold b5 at he
  split at he
  ·rename_i h0
   simp only[Vi] at he
   refine jj (p:=(∀ r∈l.map H,r.length=sz)/\0<=lo.getD 0/\lo.getD 0<=hi.getD (l.map H).length/\hi.getD (l.map H).length<=(l.map H).length) (v:= .d (.slice (e.map H))) ?_ ⟨fun q hq=>by obtain⟨z,_,rfl⟩:=VT.1 hq;exact F z,by simpa using h0⟩ (hk e Z)
   simp only[rd,hx,hl,hh,<-he,List.map_drop,Xt,Wj]
  ·cases he
theorem PY {l:List UInt8} {x:SX} {i:Option SX} {kk:List UInt8->Option R} (Z:(b5 l (lo.getD 0) (hi.getD l.length)).bind kk=some r) (hx:ev s x= .d (.str l)) (hl:Cf s i=some lo) (hh:Cf s j=some hi) (hk:∀ e,kk e=some r->aI P K sos ⟨ap s dst (.d (.str e)),h⟩):aI P K (.r dst (.sslc x i j)::sos) ⟨s,h⟩:=by
 cases he:b5 l (lo.getD 0) (hi.getD l.length) with
 |none=>rw[he] at Z;cases Z
 |some e=>
  rw[he] at Z
  unfold b5 at he
  split at he
  ·rename_i h0
   simp only[Vi] at he
   refine jj (p:=0<=lo.getD 0/\lo.getD 0<=hi.getD l.length/\hi.getD l.length<=l.length) (v:= .d (.str e)) ?_ h0 (hk e Z)
   simp only[rd,hx,hl,hh,<-he]
  ·cases he
theorem uE {n:Int} {x i:SX} {k:IntKind} (Z:(aV l n).bind kk=some r) (hx:ev s x= .vec id) (hh:h id= .vec e sz (aY H l)) (hi:ev s i= .d (.int k n)) (hk:∀ a,kk a=some r->aI P K sos ⟨ap s dst (.vref id sz n.toNat 0),h⟩):aI P K (.r dst (.idx sz x i)::sos) ⟨s,h⟩:=by
 cases he:aV l n with
 |none=>rw[he] at Z;cases Z
 |some a=>
  rw[he] at Z
  unfold aV at he
  split at he
  ·rename_i h0
   obtain⟨h9,_⟩:=Vr.1 he
   refine jj (p:=0<=n/\n<(aY H l).length/\sz=sz) (v:= .vref id sz n.toNat 0) ?_ ⟨h0,by simp only[aY,Wj];omega,rfl⟩ (hk a Z)
   simp only[rd,hi,hx,hh]
  ·cases he
theorem KF {x:SX} {c:α->DV} (Z:(l[i]?).bind kk=some r) (hx:ev s x= .vref id sz i off) (hh:h id= .vec e sz (aY H l)) (hc:∀ a,(H a)[off]?=some (c a)) (hk:∀ a,kk a=some r->aI P K sos ⟨ap s dst (.d (c a)),h⟩):aI P K (.r dst (.ld1 x)::sos) ⟨s,h⟩:=by
 cases he:l[i]? with
 |none=>rw[he] at Z;cases Z
 |some a=>
  rw[he] at Z
  refine jj (p:=sz=sz) (v:= .d (c a)) ?_ rfl (hk a Z)
  simp only[rd,hx,hh,aY,V5,he,WJ,dR,hc a,SV.noOwn,VW]
end
def gb (x y:SV):Prop:=x=y\/∃ d,x.toDV=some d/\y= .d d
def FD (σ:St):List (Nat×SV)->Prop
 |[]=>True
 |(i,v)::l=>gb (σ.s i) v/\FD σ l
theorem fY:FD σ []:=trivial
theorem eq {v:SV} {l:List (Nat×SV)} (h1:gb (s i) v) (h2:FD ⟨s,h⟩ l):FD ⟨s,h⟩ ((i,v)::l):=⟨h1,h2⟩
theorem rU {x y:SV} (h:x=y):gb x y:= .inl h
theorem zo {x:SV} (h:x.toDV=some d):gb x (.d d):= .inr ⟨d,h,rfl⟩
theorem gH {x y:SV} (h1:x=x') (h2:x'=y):gb x y:= .inl (h1.trans h2)
theorem GW {x:SV} (h1:x=x') (h2:x'.toDV=some d') (E:d'=d):gb x (.d d):=by subst h1 E;exact zo h2
theorem zp {x y:SV} (h:gb x y) (hx:al w M κ x v):al w M κ y v:=by
 rcases h with rfl|⟨d,h1,rfl⟩
 ·exact hx
 ·exact al.toDV x v d hx h1
theorem NO (hh:O.h=σ.h) (hs:∀ i,gb (σ.s i) (O.s i)):bt σ O:=by
 intro c κ φ a w D
 refine⟨κ,φ, ?_⟩
 exact{D with
  slots:=fun i hi=>zp (hs i) (D.slots i hi)
  ghost:=fun i v hv=>zp (hs _) (D.ghost i v hv)
  chunks:=fun id=>by rw[hh];exact D.chunks id}
theorem Ij {σ:St}:∀ {l:List (Nat×SV)},FD σ l->∀ i,lk l i= .d .any\/gb (σ.s i) (lk l i)
 |[],_,i=> .inl rfl
 |(j,v)::l,h,i=>by
  simp only[lk]
  by_cases r0:i=j
  ·subst r0;simp only[VW];exact .inr h.1
  ·simp only[r0,VQ];exact Ij h.2 i
mutual
theorem DI:∀ (x:SV) (d:DV),x.toDV=some d->x.noOwn=true
 | .d _,_,_=>rfl
 | .nils,_,_=>rfl
 | .lit _ _ _,_,_=>rfl
 | .agg cs,d,h=>by
  unfold SV.toDV at h
  split at h
  ·rename_i xs hx;unfold SV.noOwn;exact oG cs xs hx
  ·cases h
 | .tup cs,d,h=>by
  unfold SV.toDV at h
  split at h
  ·rename_i xs hx;unfold SV.noOwn;exact oG cs xs hx
  ·cases h
 | .ref _ _,_,_=>rfl
 | .vec _,_,_=>rfl
 | .vref _ _ _ _,_,_=>rfl
 | .mp _,_,_=>rfl
 | .own _ _,d,h=>by unfold SV.toDV at h;cases h
theorem oG:∀ (cs:List SV) (J:List DV),SV.toDVs cs=some J->SV.noOwns cs=true
 |[],_,_=>rfl
 |c::cs,J,h=>by
  unfold SV.toDVs at h
  split at h
  ·rename_i x xs h1 h2
   unfold SV.noOwns;rw[DI c x h1,oG cs xs h2];rfl
  ·cases h
end
theorem LQ {x y:SV} (h:gb x y) (hx:aT w M κ x v F):aT w M κ y v F:=by
 rcases h with rfl|⟨d,h1,rfl⟩
 ·exact hx
 ·obtain⟨h2,rfl⟩:=aT.to_S x v F (DI x d h1) hx
  unfold aT;exact⟨rfl,al.toDV x v d h2 h1⟩
def Hh (x y:SV):Prop:=gb x y\/(x= .nils/\∃ e ms,y= .own (.sl e ms) (.slice []))
theorem NP {x y:SV} (h:Hh x y) (hx:aT w M κ x v F):aT w M κ y v F:=by
 rcases h with h|⟨rfl,e,ms,rfl⟩
 ·exact LQ h hx
 ·simp only[aT,al] at hx
  obtain⟨rfl,rfl⟩:=hx
  unfold aT f8
  exact⟨[],[],[],rfl,World.ownsRow_nil _ _ _ _,by simp,by simp,⟨rfl,rfl⟩,rfl⟩
inductive ae:List SV->List SV->Prop
 |nil:ae [] []
 |cons {x y:SV} {xs ys:List SV} (h:Hh x y) (hs:ae xs ys):ae (x::xs) (y::ys)
theorem ae.consS {x y:SV} (h:gb x y) (hs:ae xs ys):ae (x::xs) (y::ys):= .cons (.inl h) hs
theorem ae.rfl:∀ {l:List SV},ae l l
 |[]=> .nil
 |_::_=> .consS (.inl _root_.rfl) ae.rfl
theorem ae.append {a b c d:List SV} (h:ae a b) (k:ae c d):ae (a++c) (b++d):=by
 induction h with
 |nil=>exact k
 |cons h _ ih=>exact .cons h ih
theorem ae.length {a b:List SV} (h:ae a b):b.length=a.length:=by
 induction h with
 |nil=>exact _root_.rfl
 |cons _ _ ih=>simp[ih]
theorem Bz (h:ae xs ys):∀ {vs:List Value} {F:List Nat},az w M κ xs vs F->az w M κ ys vs F:=by
 induction h with
 |nil=>intro vs F h;exact h
 |cons h _ ih=>
  intro vs F D
  unfold az at D⊢
  obtain⟨u,X,N,R,h1,h2,E,h4⟩:=D
  exact⟨u,X,N,R,h1,h2,NP h E,ih h4⟩
inductive bv:List (List SV)->List (List SV)->Prop
 |nil:bv [] []
 |cons {x y:List SV} {xs ys:List (List SV)} (h:ae x y) (hs:bv xs ys):bv (x::xs) (y::ys)
theorem bv.rfl:∀ {l:List (List SV)},bv l l
 |[]=> .nil
 |_::_=> .cons ae.rfl bv.rfl
theorem bv.of_eq (h:a=b):bv a b:=h▸bv.rfl
theorem bv.append {c d:List (List SV)} (h:bv a b) (k:bv c d):bv (a++c) (b++d):=by
 induction h with
 |nil=>exact k
 |cons h _ ih=>exact .cons h ih
theorem bv.flat (h:bv a b):ae a.flatten b.flatten/\b.length=a.length/\∀ sz,(∀ r∈a,r.length=sz)->∀ r∈b,r.length=sz:=by
 induction h with
 |nil=>exact⟨.nil,_root_.rfl,fun _ h=>h⟩
 |cons h _ ih=>
  obtain⟨h1,h2,E⟩:=ih
  refine⟨by simp only[V4];exact h.append h1,by simp[h2],fun sz hs r D=> ?_⟩
  rcases VK.1 D with rfl|D
  ·rw[h.length];exact hs _ oS
  ·exact E sz (fun r D=>hs r (by simp[D])) r D
def Ax:Ch->Ch->Prop
 | .vec e sz rows,c=>∃ f,c= .vec e sz f/\bv rows f
 | .box cs,c=>∃ C,c= .box C/\ae cs C
 |a,b=>a=b
theorem bT:∀ {a b:Ch},a=b->Ax a b
 | .vec _ _ _,_,h=>⟨_,h.symm,bv.rfl⟩
 | .box _,_,h=>⟨_,h.symm,ae.rfl⟩
 | .dead,_,h=>h
 | .map _ _,_,h=>h
 | .bld _ _ _,_,h=>h
theorem lb {a a' b:Ch} (h1:a=a') (h2:Ax a' b):Ax a b:=h1▸h2
theorem fO (h:bv a b):Ax (.vec e sz a) (.vec e sz b):=⟨b,rfl,h⟩
theorem wd {a b:List SV} (h:ae a b):Ax (.box a) (.box b):=⟨b,rfl,h⟩
theorem NQ:∀ {a b:Ch},Ax a b->lV w M κ id a F->lV w M κ id b F
 | .vec e sz rows,b,h,D=>by
  obtain⟨f,rfl,h⟩:=h
  obtain⟨h1,h2,E⟩:=h.flat
  obtain⟨xs,G,k1,k2,k3,k4,k5⟩:=D
  exact⟨xs,G,by rw[h2];exact k1,k2,E _ k3,Bz h1 k4,k5⟩
 | .box cs,b,h,D=>by
  obtain⟨C,rfl,h⟩:=h
  obtain⟨b,T,vs,G,k1,k2,k3,k4,k5⟩:=D
  exact⟨b,T,vs,G,k1,k2,k3,Bz h k4,k5⟩
 | .dead,b,h,D=>by cases h;exact D
 | .map _ _,b,h,D=>by cases h;exact D
 | .bld _ _ _,b,h,D=>by cases h;exact D
def FE (σ:St):List (Nat×Ch)->Prop
 |[]=>True
 |(i,v)::l=>Ax (σ.h i) v/\FE σ l
theorem fZ:FE σ []:=trivial
theorem fa {v:Ch} {l:List (Nat×Ch)} (h1:Ax (h i) v) (h2:FE ⟨s,h⟩ l):FE ⟨s,h⟩ ((i,v)::l):=⟨h1,h2⟩
theorem mJ (hs:∀ i,gb (σ.s i) (O.s i)) (hh:∀ i,Ax (σ.h i) (O.h i)):bt σ O:=by
 intro c κ φ a w D
 refine⟨κ,φ, ?_⟩
 exact{D with
  slots:=fun i hi=>zp (hs i) (D.slots i hi)
  ghost:=fun i v hv=>zp (hs _) (D.ghost i v hv)
  chunks:=fun id=>NQ (hh id) (D.chunks id)}
open Classical in
theorem j_ {l:List (Nat×SV)} {hl:List (Nat×Ch)} (hs:FD σ l) (hh:FE σ hl):bt σ (st l hl):=by
 have hk:∀ {hl:List (Nat×Ch)},FE σ hl->∀ i,lh hl i= .dead\/Ax (σ.h i) (lh hl i):=by
  intro hl
  induction hl with
  |nil=>intro _ i;exact .inl rfl
  |cons p hl ih=>
   obtain⟨j,v⟩:=p
   intro hk i
   simp only[lh]
   by_cases r0:i=j
   ·subst r0;simp only[VW];exact .inr hk.1
   ·simp only[r0,VQ];exact ih hk.2 i
 have h1:bt σ ⟨fun i=>if lk l i= .d .any then σ.s i else lk l i,fun i=>if lh hl i= .dead then σ.h i else lh hl i⟩:=mJ (fun i=>by
  by_cases hi:lk l i= .d .any
  ·simp only[hi,VW];exact .inl rfl
  ·simp only[hi,VQ]
   rcases Ij hs i with h|h
   ·exact absurd h hi
   ·exact h) (fun i=>by
  by_cases hi:lh hl i= .dead
  ·simp only[hi,VW];exact bT rfl
  ·simp only[hi,VQ]
   rcases hk hh i with h|h
   ·exact absurd h hi
   ·exact h)
 refine h1.trans (tU (fun i=> ?_) (fun i=> ?_))
 ·by_cases hi:lk l i= .d .any
  ·exact .inr hi
  ·refine .inl ?_;simp only[hi,VQ]
 ·by_cases hi:lh hl i= .dead
  ·exact .inr hi
  ·refine .inl ?_;simp only[hi,VQ]
section
variable {α:Type} {H:α->List DV}
theorem rV {l l':List (List DV)} (h:l=l'):DV.slice l=DV.slice l':=by rw[h]
theorem UH {a b:DV} (h:a=b):SV.d a=SV.d b:=by rw[h]
theorem rW:([]:List (List DV))=([]:List α).map H:=rfl
theorem xo {r:List DV} {rs:List (List DV)} {a:α} {l:List α} (h1:r=H a) (h2:rs=l.map H):r::rs=(a::l).map H:=by rw[h1,h2];rfl
theorem LR {r:List SV} {a:α} {l:List α} (h1:r=dR (H a)) (h2:rs=aY H l):r::rs=aY H (a::l):=by rw[h1,h2];rfl
theorem rz (id:Nat) (o:DV) (l:List α):dz id o (aY H l)=aY H l:=GA id o _
theorem LS (l:List α):SV.frzR (aY H l)=some (l.map H):=GB _
theorem sO (l:List α):(aY H l).length=l.length:=by simp[aY]
theorem KG {a b:List DV} (h:a=b):DV.tup a=DV.tup b:=by rw[h]
theorem BA {a b:List DV} (h:a=b):DV.agg a=DV.agg b:=by rw[h]
theorem uF {a b:DV} {l l':List DV} (h:a=b) (k:l=l'):a::l=b::l':=by rw[h,k]
theorem R9 {n:UInt8} (h:d= .int .u8 n.toNat):[d]=ej n:=by rw[h];rfl
theorem R_ {l:List α} (h:d= .slice (l.map H)):[d]=hY H l:=by rw[h];rfl
theorem Ay (n:Int) (h:0<=n/\n<256):DV.int .u8 n=DV.int .u8 ((UInt8.ofNat n.toNat).toNat:Int):=by
 rw[WP (by show n.toNat<256;omega)]
 congr 1;omega
theorem FF:bv [] (aY H ([]:List α)):= .nil
theorem NR {xs ys:List (List SV)} {l l':List α} (h1:bv xs (aY H l)) (h2:bv ys (aY H l')):bv (xs++ys) (aY H (l++l')):=by
 have:=h1.append h2
 simpa[aY] using this
theorem JK {r:List SV} {a:α} {l:List α} (h1:ae r (dR (H a))) (h2:bv rs (aY H l)):bv (r::rs) (aY H (a::l)):= .cons h1 h2
theorem FG {l:List α}:bv (aY H l) (aY H l):=bv.rfl
end
section
variable {P:Program} {s:Nat->SV} {h:Nat->Ch} {K:St->Prop} {sos:List SO} {α:Type} {H:α->List DV}
theorem zq (F:∀ e,(H e).length=sz) (l:List α):∀ r∈aY H l,r.length=sz:=by
 intro r D
 simp only[aY,WZ,VT,Function.comp] at D
 obtain⟨a,_,rfl⟩:=D
 simp[dR,F]
theorem sP (l l':List α):aY H l++aY H l'=aY H (l++l'):=by simp[aY]
theorem xp {v:SV} (hv:gb (s n) v):bt ⟨s,h⟩ ⟨ap s n v,h⟩:=NO rfl fun i=>by
 by_cases hi:i=n
 ·subst hi;simp only[ap,VW];exact hv
 ·simp only[ap,hi,VQ];exact .inl rfl
theorem qT {l l2:List α} {m:Nat} {kk:Option R} (Z:ew (gq (l.length+l2.length)) kk=some r) (hx:s m= .vec id) (hh:h id= .vec e sz (aY H l)) (hy:s n=Y) (hd:Y.toDV=some d) (he:d= .slice (l2.map H)) (U:m≠n) (F:∀ a,(H a).length=sz) (hk:kk=some r->aI P K sos ⟨ap (bG id .any (ap s n (.d (.slice (l2.map H))))) dst (.vec id),ap (bK id .any h) id (.vec e sz (aY H (l++l2)))⟩):aI P K (.w dst (.app e sz (.t m) (.t n))::sos) ⟨s,h⟩:=by
 cases hl:gq (l.length+l2.length) with
 |none=>rw[hl] at Z;cases Z
 |some u=>
  rw[hl] at Z
  have I:=nT.1 hl
  refine Py (xp (n:=n) (v:= .d (.slice (l2.map H))) (by rw[hy];exact zo (he▸hd))) (p:=e=e/\sz=sz/\(∀ r∈(l2.map H).map dR,r.length=sz)/\(aY H l).length+((l2.map H).map dR).length<=137438953472) ?_ ⟨rfl,rfl,zq F l2,by simp only[sO,Wj];exact I⟩ (hk Z)
  simp only[wr,ev,ap,U,VQ,VW,hx,sM,SV.toDV,hh,dh,St.swap]
  rw[show(l2.map H).map dR=aY H l2 from rfl,sP,rz]
theorem Sa {l2:List α} {m:Nat} {kk:Option R} (Z:ew (gq l2.length) kk=some r) (hx:s m= .nils) (hy:s n=Y) (hd:Y.toDV=some d) (he:d= .slice (l2.map H)) (U:m≠n) (F:∀ a,(H a).length=sz) (hk:kk=some r->aI P K sos ⟨ap (bG dst .any (ap s n (.d (.slice (l2.map H))))) dst (.vec dst),ap (bK dst .any h) dst (.vec e sz (aY H l2))⟩):aI P K (.w dst (.app e sz (.t m) (.t n))::sos) ⟨s,h⟩:=by
 cases hl:gq l2.length with
 |none=>rw[hl] at Z;cases Z
 |some u=>
  rw[hl] at Z
  have I:=nT.1 hl
  refine Py (xp (n:=n) (v:= .d (.slice (l2.map H))) (by rw[hy];exact zo (he▸hd))) (p:=(∀ r∈(l2.map H).map dR,r.length=sz)/\((l2.map H).map dR).length<=137438953472) ?_ ⟨zq F l2,by simp only[Wj];exact I⟩ (hk Z)
  simp only[wr,ev,ap,U,VQ,VW,hx,sM,SV.toDV,dh,St.swap]
  rw[show(l2.map H).map dR=aY H l2 from rfl,rz]
theorem GX {rows f:List (List SV)} {x y:SX} {kk:Option R} (Z:ew (gq n) kk=some r) (hx:ev s x= .vec id) (hh:h id= .vec e sz rows) (hy:sM (ev s y)=some f) (hn:rows.length+f.length=n) (F:(f.all fun q=>q.length==sz)=true) (hl:su ⟨ap (bG id .any s) dst (.vec id),ap (bK id .any h) id (.vec e sz (dz id .any (rows++f)))⟩ late) (hk:kk=some r->aI P K sos ⟨ap (bG id .any s) dst (.vec id),ap (bK id .any h) id (.vec e sz (dz id .any (rows++f)))⟩):aI P K (.x dst (.app e sz x y) late::sos) ⟨s,h⟩:=by
 cases g:gq n with
 |none=>rw[g] at Z;cases Z
 |some u=>
  rw[g] at Z
  have I:=nT.1 g
  refine Bj (p:=e=e/\sz=sz/\(∀ r∈f,r.length=sz)/\rows.length+f.length<=137438953472) ?_ ⟨rfl,rfl,fun q hq=>by have:=VN.1 F q hq;simpa using this,by omega⟩ hl (hk Z)
  simp only[wr,hx,hy,hh,dh,St.swap]
theorem NS {l:List α} {a:α} {f:α->α} {v:SX} (hx:ev s p= .vref id sz i off) (hh:h id= .vec e sz (aY H l)) (hv:(ev s v).cells?=some vs) (hn:(vs.length==n)=true) (hc:∀ a,splice (dR (H a)) off vs=dR (H (f a))) (F:∀ a,(H a).length=sz) (ho:(decide (off+n<=sz))=true) (ha:l[i]?=some a) (dst:Nat):
  ∃ q,wr ⟨s,h⟩ dst (.st n p v)=some (q,⟨s,ap h id (.vec e sz (aY H (l.set i (f a))))⟩)/\q:=by
 have b:(aY H l)[i]?=some (dR (H a)):=by simp[aY,V5,ha]
 refine⟨sz=sz/\vs.length=n/\off+n<=(dR (H a)).length, ?_,rfl,by simpa using hn,by simpa[dR,F] using ho⟩
 simp only[wr,hx,hh,hv,b,hc a]
 congr 2
 simp[aY,List.map_set]
theorem JL {l:List α} {f:α->α} {cs:α->List SV} {v:SX} {kk:α->Option R} (Z:(l[i]?).bind kk=some r) (hx:ev s p= .vref id sz i off) (hh:h id= .vec e sz (aY H l)) (hv:(ev s v).cells?=some vs) (hn:(vs.length==n)=true) (F:∀ a,(H a).length=sz) (ho:(decide (off+n<=sz))=true) (B:∀ a,splice (dR (H a)) off vs=cs a) (o:∀ a,cs a=dR (H (f a))) (hl:∀ a,su ⟨s,ap h id (.vec e sz (aY H (l.set i (f a))))⟩ late) (hk:∀ a,kk a=some r->aI P K sos ⟨s,ap h id (.vec e sz (aY H (l.set i (f a))))⟩):aI P K (.x dst (.st n p v) late::sos) ⟨s,h⟩:=by
 cases ha:l[i]? with
 |none=>rw[ha] at Z;cases Z
 |some a=>
  rw[ha] at Z
  obtain⟨q,h1,h2⟩:=NS hx hh hv hn (fun a=>(B a).trans (o a)) F ho ha dst
  exact Bj h1 h2 (hl a) (hk a Z)
theorem zr {l:List α} {H:α->List DV} {x:SX} {kk:α->Option R} (Z:(l[i]?).bind kk=some r) (hx:ev s x= .vref id sz i 0) (hh:h id= .vec e sz (aY H l)) (F:∀ a,(H a).length=n) (hk:∀ a,kk a=some r->aI P K sos ⟨ap s dst (.agg (dR (H a))),h⟩):aI P K (.r dst (.ldA n x)::sos) ⟨s,h⟩:=by
 cases he:l[i]? with
 |none=>rw[he] at Z;cases Z
 |some a=>
  rw[he] at Z
  have hn:SV.noOwns (dR (H a))=true:=by
   have:∀ l:List DV,SV.noOwns (dR l)=true:=fun l=>by induction l with|nil=>rfl|cons d l ih=>simpa[dR,SV.noOwns,SV.noOwn] using ih
   exact this _
  have ht:(dR (H a)).take n=dR (H a):=VO (by simp[dR,F])
  refine jj (p:=sz=sz/\0+n<=(dR (H a)).length) (v:= .agg (dR (H a))) ?_ ⟨rfl,by simp[dR,F]⟩ (hk a Z)
  simp only[rd,hx,hh,aY,V5,he,WJ,XA,ht,hn,VW]
theorem JM {H:α->List DV} (F:∀ a,(H a).length=n) (a b:α):splice (dR (H a)) 0 (dR (H b))=dR (H b):=by
 simp only[splice,List.take_zero,VC,VD]
 rw[WL (by simp[dR,F]),VL]
theorem Sb {l:List α} {b:α} {m:Nat} {kk:α->Option R} (Z:(l[i]?).bind kk=some r) (hx:s m= .vref id sz i 0) (hh:h id= .vec e sz (aY H l)) (hy:s n=Y) (hd:Y.toDV=some d) (he:d= .agg (H b)) (U:m≠n) (F:∀ a,(H a).length=sz) (hk:∀ a,kk a=some r->aI P K sos ⟨ap s n (.d (.agg (H b))),ap h id (.vec e sz (aY H (l.set i b)))⟩):aI P K (.w dst (.st sz (.t m) (.t n))::sos) ⟨s,h⟩:=by
 cases ha:l[i]? with
 |none=>rw[ha] at Z;cases Z
 |some a=>
  rw[ha] at Z
  obtain⟨q,h1,h2⟩:=NS (s:=ap s n (.d (.agg (H b)))) (h:=h) (p:= .t m) (v:= .t n) (f:=fun _=>b) (n:=sz) (off:=0) (vs:=dR (H b)) (by simp only[ev,ap,U,VQ,hx]) hh (by simp only[ev,ap,VW,SV.cells?,DV.cells?];rfl) (by simp[dR,F]) (fun a=>JM F a b) F oS ha dst
  exact Py (xp (n:=n) (v:= .d (.agg (H b))) (by rw[hy];exact zo (he▸hd))) h1 h2 (hk a Z)
end
attribute [push_cast] NM tg rz LS sO GR ej dr Tu hY Wj
