/-
  My text.
-/
import Derived.Test.YtgmnipfafmphaaaGreatDoorSYEngU
namespace Go.Proofs.YtgmnipfafmphaaaGreatDoor
set_option linter.unusedSimpArgs false
set_option linter.unusedVariables false
open Go.RowKit
variable {A B C:Type} {F:List Nat} {M:Nat->Prop} {O:St} {R S:Type} {X:SC} {Y:SV} {a:List (List SV)} {args:List SX} {as:List DV} {b:List (List SV)} {d d' d0:DV} {dst e:Nat} {h:Nat->Ch} {hi:Option Int} {i id:Nat} {j:Option SX} {late:List (Nat×Nat×oX)} {lo:Option Int} {n off:Nat} {p:SX} {qs:List RV} {rs:List (List SV)} {s:Nat->SV} {sz:Nat} {v:Value} {vs:List SV} {w:World} {x':SV} {xs ys:List SV} {α:Type} {κ:Nat->Value} {σ:St} {H:α->List DV} {Q:R->AX->St->Prop} {c:C} {enc:A->DV} {k:S->Option R} {kk:α->Option R} {l:List α} {m:Option R} {mk:S->St} {o:S⊕R} {r:R} {s' s0:S} {step:S->Option (S⊕(S⊕R))}
def l_ (n:Int):List DV:=[.int .i64 n]
def cP (b:UInt8):List DV:=[.int .u8 b.toNat]
def cX (s:List UInt8):List DV:=[.str s]
def y0 (b:Bool):List DV:=[.bool b]
def fA (H:α->List DV) (l:List α):List DV:=[.slice (l.map H)]
def aM (H:α->List DV) (l:List α):List (List SV):=(l.map H).map dR
def lG (n:Nat):Option Unit:=if n<=137438953472 then some () else none
theorem mG {u:Unit}:lG n=some u↔n<=137438953472:=by unfold lG;split<;>simp_all
def mh (c:Option Unit) (m:Option R):Option R:=c.bind fun _=>m
def Em (mk:S->St) (Q:R->AX->St->Prop):S⊕R->AX->St->Prop
 | .inl s',.normal,σ=>bm σ (mk s')
 | .inr r,.exit i,σ=>Q r (.exit i) σ
 | .inr r,.ret,σ=>Q r .ret σ
 |_,_,_=>False
def c3 {T:Type} (k:T->Option R):T⊕R->Option R
 | .inl t=>k t
 | .inr r=>some r
def h_ (m:Option R):Option (S⊕R):=m.map .inr
section
variable {P:Program} {x y:SC} {σ:St} {s:Nat->SV} {h:Nat->Ch} {K:St->Prop} {sos:List SO}
theorem bv {b:Bool} {m1 m2:Option R} {Q:AX->St->Prop} {t:SX} (Z:(bif b then m1 else m2)=some r) (hc:ev s t= .d (.bool b)) (hx:m1=some r->AW P x Q ⟨s,h⟩) (hy:m2=some r->AW P y Q ⟨s,h⟩):AW P (.cond t x y) Q ⟨s,h⟩:=by
 refine H_ hc (fun e=> ?_) (fun e=> ?_)
 ·subst e;exact hx Z
 ·subst e;exact hy Z
theorem Qb (mk:S->St) {step:S->Option (S⊕R)} (Z:bc step s0=some r) (h0:bm σ (mk s0)) (hb:∀ s o,step s=some o->AW P x (Em mk Q o) (mk s)):AW P (.loop x) (Q r) σ:=by
 obtain⟨n,hn⟩:=vw.1 Z
 refine Lc (fun m σ=>∃ s,σ=mk s/\lF step m s=some r) n ⟨_,h0,s0,rfl,hn⟩ ?_
 rintro m _ ⟨s,rfl,hl⟩
 cases m with
 |zero=>simp[lF] at hl
 |succ m=>
  simp only[lF] at hl
  split at hl
  ·rename_i s' hs
   refine D3 (fun e O he=> ?_) (hb s _ hs)
   cases e with
   |normal=>exact⟨m,mk s',by omega,he,s',rfl,hl⟩
   |exit i=>exact he.elim
   |ret=>exact he.elim
  ·rename_i r' hs
   simp only[SN] at hl;subst hl
   refine D3 (fun e O he=> ?_) (hb s _ hs)
   cases e with
   |normal=>exact he.elim
   |exit i=>exact he
   |ret=>exact he
  ·cases hl
theorem cr {M:St} (Z:some (.inl s')=some o) (hM:mk s'=M) (hi:bm σ M):Em mk Q o .normal σ:=by
 cases Z;subst hM;exact hi
theorem cp (Z:h_ m=some o) (hi:∀ r,m=some r->Q r (.exit i) σ):Em mk Q o (.exit i) σ:=by
 cases m with
 |none=>cases Z
 |some r=>cases Z;exact hi r rfl
theorem eu (Z:h_ m=some o) (hi:∀ r,m=some r->Q r .ret σ):Em mk Q o .ret σ:=by
 cases m with
 |none=>cases Z
 |some r=>cases Z;exact hi r rfl
theorem eS {r0:R} {enc:R->DV} (Z:some r0=some r) (G:dE σ qs=some d) (he:d=enc r0):Jt qs (enc r) .ret σ:=by
 cases Z;subst he;exact⟨σ,bm.refl σ,G⟩
theorem AY {r:A×B} {a:A} {b:B} {enc:A×B->DV} (Z:some (a,b)=some r) (G:dE σ qs=some d') (h0:enc (a,b)=d0) (he:d'=d0):Jt qs (enc r) .ret σ:=eS Z G (he.trans h0.symm)
theorem LI {r:A×B×C} {a:A} {b:B} {enc:A×B×C->DV} (Z:some (a,b,c)=some r) (G:dE σ qs=some d') (h0:enc (a,b,c)=d0) (he:d'=d0):Jt qs (enc r) .ret σ:=eS Z G (he.trans h0.symm)
theorem LJ {D E:Type} {r:A×B×C×D×E} {a:A} {b:B} {d:D} {e:E} {enc:A×B×C×D×E->DV} (Z:some (a,b,c,d,e)=some r) (G:dE σ qs=some d') (h0:enc (a,b,c,d,e)=d0) (he:d'=d0):Jt qs (enc r) .ret σ:=eS Z G (he.trans h0.symm)
theorem fL {v v0:Bool} {u:Nat} (Z:some v0=some v) (G:s u= .d (.bool v0)):FR u v ⟨s,h⟩:=by
 cases Z;exact G
def ws (Q:AX->St->Prop):Prop:=∀ e σ O,bm σ O->Q e O->Q e σ
theorem b_ {Q:AX->St->Prop} (hq:ws Q):ws (Lb P y Q):=by
 intro e σ O hi h
 cases e with
 |normal=>exact pO hi h
 |exit i=>exact hq _ _ _ hi h
 |ret=>exact hq _ _ _ hi h
theorem gj {Q:AX->St->Prop} {b:Nat} (hq:ws Q):ws (mE b Q):=by
 intro e σ O hi h
 cases e with
 |normal=>exact hq _ _ _ hi h
 |exit i=>simp only[mE] at h⊢;split at h<;>rename_i hb<;>simp only[hb,TB,Tq]<;>exact hq _ _ _ hi h
 |ret=>exact hq _ _ _ hi h
theorem ea {res:DV}:ws (Jt qs res):=by
 intro e σ O hi h
 cases e with
 |normal=>obtain⟨j,h1,h2⟩:=h;exact⟨j,hi.trans h1,h2⟩
 |exit i=>exact h
 |ret=>obtain⟨j,h1,h2⟩:=h;exact⟨j,hi.trans h1,h2⟩
theorem ga {N:Nat} {res:SV} {outs:List SV}:ws (yZ N n qs res outs):=by
 intro e σ O hi h
 cases e with
 |normal=>obtain⟨j,h1,h2⟩:=h;exact⟨j,hi.trans h1,h2⟩
 |exit i=>exact h
 |ret=>obtain⟨j,h1,h2⟩:=h;exact⟨j,hi.trans h1,h2⟩
theorem ja (hq:∀ r,ws (Q r)):ws (Em mk Q o):=by
 intro e σ O hi h
 cases o with
 |inl s'=>cases e with
  |normal=>exact hi.trans h
  |exit i=>exact h
  |ret=>exact h
 |inr r=>cases e with
  |normal=>exact h
  |exit i=>exact hq r _ _ _ hi h
  |ret=>exact hq r _ _ _ hi h
def Hi (b:Nat) (mk:S->St) (Q:R->AX->St->Prop):S⊕R->AX->St->Prop
 | .inl s',.exit i,σ=>i=b/\bm σ (mk s')
 | .inr r,.exit i,σ=>i≠b/\Q r (.exit i) σ
 | .inr r,.ret,σ=>Q r .ret σ
 |_,_,_=>False
theorem jb {b:Nat} (hq:∀ r,ws (Q r)):ws (Hi b mk Q o):=by
 intro e σ O hi h
 cases o with
 |inl s'=>cases e with
  |normal=>exact h
  |exit i=>exact⟨h.1,hi.trans h.2⟩
  |ret=>exact h
 |inr r=>cases e with
  |normal=>exact h
  |exit i=>exact⟨h.1,hq r _ _ _ hi h.2⟩
  |ret=>exact hq r _ _ _ hi h
theorem ew {b:Nat} {M:St} (Z:some (.inl s')=some o) (hM:mk s'=M) (hi:bm σ M):Hi b mk Q o (.exit b) σ:=by
 cases Z;subst hM;exact⟨rfl,hi⟩
theorem iv {b:Nat} (Z:h_ m=some o) (hi:∀ r,m=some r->Q r .ret σ):Hi b mk Q o .ret σ:=by
 cases m with
 |none=>cases Z
 |some r=>cases Z;exact hi r rfl
theorem NX {b:Nat} (mk:C->S->St) (Z:(bc step s0).bind (c3 k)=some r) (h0:bm σ (mk c s0)) (hq:∀ r,ws (Q r)) (hb:∀ s o,step s=some o->AW P x (Em (mk c) (Hi b (mk c) Q) o) (mk c s)) (hk:∀ s,k s=some r->Q r .normal (mk c s)):AW P (.block b (.loop x)) (Q r) σ:=by
 cases ha:bc step s0 with
 |none=>rw[ha] at Z;cases Z
 |some o=>
  rw[ha] at Z
  refine bn (D3 (fun e O he=> ?_) (Qb (mk c) ha h0 hb))
  cases o with
  |inl t=>
   cases e with
   |normal=>exact he.elim
   |exit i=>obtain⟨h1,h2⟩:=he;subst h1;exact od (hq r _ _ _ h2 (hk t Z))
   |ret=>exact he.elim
  |inr r'=>
   simp only[SQ,c3,SN] at Z;subst Z
   cases e with
   |normal=>exact he.elim
   |exit i=>exact sH he.1 he.2
   |ret=>exact he
theorem NY {b:Nat} (hX:X= .block b (.loop x)) (mk:C->S->St) {mk':S->St} {M:St} (Z:(bc step s0).bind (c3 k)=some r) (hM:mk c s0=M) (h0:bm σ M) (r2:mk c=mk') (hq:∀ r,ws (Q r)) (hb:∀ s o,step s=some o->AW P x (Em mk' (Hi b mk' Q) o) (mk' s)) (hk:∀ s,k s=some r->Q r .normal (mk' s)):AW P X (Q r) σ:=by
 subst r2 hM;rw[hX];exact NX mk Z h0 hq hb hk
structure cS (A B:Prop):Prop where
 a:A
 b:B
structure fe {S R:Type} (P:Program) (x:SC) (Q:R->AX->St->Prop) (r:R) (b:Nat) (m:S->St) (step:S->Option (S⊕(S⊕R))) (k:S->Option R):Prop where
 hq:∀ r,ws (Q r)
 hb:∀ s o,step s=some o->AW P x (Em m (Hi b m Q) o) (m s)
 hk:∀ s,k s=some r->Q r .normal (m s)
theorem fe.of {b:Nat} {m m':S->St} (r2:m=m') (hq:∀ r,ws (Q r)) (hb:∀ s o,step s=some o->AW P x (Em m' (Hi b m' Q) o) (m' s)) (hk:∀ s,k s=some r->Q r .normal (m' s)):fe P x Q r b m step k:=by
 subst r2;exact⟨hq,hb,hk⟩
theorem aA {b:Nat} (hX:X= .block b (.loop x)) (mk:C->S->St) {M:St} (Z:(bc step s0).bind (c3 k)=some r) (hM:mk c s0=M) (h:cS (bm σ M) (fe P x Q r b (mk c) step k)):AW P X (Q r) σ:=NY hX mk Z hM h.a rfl h.b.hq h.b.hb h.b.hk
theorem R9 {a:Option A} {k:A->Option R} {f:Nat} (Z:a.bind k=some r) (ha:SV.toDVs (args.map (ev s))=some as) (hs:∀ x,a=some x->ac P f as (enc x)) (hk:∀ x,k x=some r->aD P K sos ⟨am s dst (.d (enc x)),h⟩):aD P K (.c dst (.f f) args::sos) ⟨s,h⟩:=by
 cases hx:a with
 |none=>rw[hx] at Z;cases Z
 |some x=>rw[hx] at Z;exact SK ha (hs x hx) (hk x Z)
theorem j0 {a:Option A} {k:A->Option R} {f:Nat} {b:List DV} (Z:a.bind k=some r) (ha:SV.toDVs (args.map (ev s))=some b) (hs:∀ x,a=some x->ac P f as (enc x)) (he:b=as) (hk:∀ x,k x=some r->aD P K sos ⟨am s dst (.d (enc x)),h⟩):aD P K (.c dst (.f f) args::sos) ⟨s,h⟩:=by
 subst he;exact R9 Z ha hs hk
theorem FS {a:Option A} {k:A->Option R} {t f:Nat} {caps:List DV} (Z:a.bind k=some r) (C:s t= .d (.fn f caps)) (ha:SV.toDVs (args.map (ev s))=some as) (hs:∀ x,a=some x->ac P f (as++caps) (enc x)) (hk:∀ x,k x=some r->aD P K sos ⟨am s dst (.d (enc x)),h⟩):aD P K (.c dst (.t t) args::sos) ⟨s,h⟩:=by
 cases hx:a with
 |none=>rw[hx] at Z;cases Z
 |some x=>rw[hx] at Z;exact R5 C ha (hs x hx) (hk x Z)
theorem dT {op:oX} (G:aD P K (.r dst op::sos) ⟨s,h⟩):aD P K (.o dst op::sos) ⟨s,h⟩:=by
 simp only[aD,AO] at G⊢
 split at G
 ·rename_i p v D;exact⟨⟨s,h⟩,bm.refl _,p,v,D,G.1,G.2⟩
 ·exact G.elim
theorem En {n:Int} {e:α} {x i:SX} {k:IntKind} (hx:ev s x= .d (.slice (l.map H))) (hi:ev s i= .d (.int k n)) (F:∀ e,(H e).length=sz) (he:b4 l n=some e):
  rd h s (.idx sz x i)=some (0<=n/\(H e).length=sz,.d (.ptr (H e)))/\0<=n/\(H e).length=sz:=by
 unfold b4 at he
 split at he
 ·rename_i h0
  refine⟨?_,h0,F e⟩
  simp only[rd,hi,hx,TC,he,Uf]
 ·cases he
theorem fp {n:Int} {x i:SX} {k:IntKind} (Z:(b4 l n).bind kk=some r) (hx:ev s x= .d (.slice (l.map H))) (hi:ev s i= .d (.int k n)) (F:∀ e,(H e).length=sz) (hk:∀ e,kk e=some r->aD P K sos ⟨am s dst (.d (.ptr (H e))),h⟩):aD P K (.r dst (.idx sz x i)::sos) ⟨s,h⟩:=by
 cases he:b4 l n with
 |none=>rw[he] at Z;cases Z
 |some e=>
  rw[he] at Z
  obtain⟨h1,h2⟩:=En (h:=h) hx hi F he
  exact iC h1 h2 (hk e Z)
theorem rj {l:List UInt8} {n:Int} {x i:SX} {k:IntKind} {kk:UInt8->Option R} (Z:(b4 l n).bind kk=some r) (hx:ev s x= .d (.str l)) (hi:ev s i= .d (.int k n)) (hk:∀ e,kk e=some r->aD P K sos ⟨am s dst (.d (.int .u8 (e.toNat:Int))),h⟩):aD P K (.r dst (.sidx x i)::sos) ⟨s,h⟩:=by
 cases he:b4 l n with
 |none=>rw[he] at Z;cases Z
 |some e=>
  rw[he] at Z
  unfold b4 at he
  split at he
  ·rename_i h0
   refine iC (p:=0<=n) (v:= .d (.int .u8 e.toNat)) ?_ h0 (hk e Z)
   simp only[rd,hi,hx,he]
  ·cases he
theorem Eo {x:SX} {i:Option SX} {kk:List α->Option R} (Z:(cz l (lo.getD 0) (hi.getD l.length)).bind kk=some r) (hx:ev s x= .d (.slice (l.map H))) (hl:zu s i=some lo) (hh:zu s j=some hi) (F:∀ e,(H e).length=sz) (hk:∀ e,kk e=some r->aD P K sos ⟨am s dst (.d (.slice (e.map H))),h⟩):aD P K (.r dst (.slc sz x i j)::sos) ⟨s,h⟩:=by
 cases he:cz l (lo.getD 0) (hi.getD l.length) with
 |none=>rw[he] at Z;cases Z
 |some e=>
  rw[he] at Z
  unfold cz at he
  split at he
  ·rename_i h0
   simp only[SN] at he
   refine iC (p:=(∀ r∈l.map H,r.length=sz)/\0<=lo.getD 0/\lo.getD 0<=hi.getD (l.map H).length/\hi.getD (l.map H).length<=(l.map H).length) (v:= .d (.slice (e.map H))) ?_ ⟨fun q hq=>by obtain⟨z,_,rfl⟩:=Tp.1 hq;exact F z,by simpa using h0⟩ (hk e Z)
   simp only[rd,hx,hl,hh,<-he,List.map_drop,UZ,TL]
  ·cases he
theorem NZ {l:List UInt8} {x:SX} {i:Option SX} {kk:List UInt8->Option R} (Z:(cz l (lo.getD 0) (hi.getD l.length)).bind kk=some r) (hx:ev s x= .d (.str l)) (hl:zu s i=some lo) (hh:zu s j=some hi) (hk:∀ e,kk e=some r->aD P K sos ⟨am s dst (.d (.str e)),h⟩):aD P K (.r dst (.sslc x i j)::sos) ⟨s,h⟩:=by
 cases he:cz l (lo.getD 0) (hi.getD l.length) with
 |none=>rw[he] at Z;cases Z
 |some e=>
  rw[he] at Z
  unfold cz at he
  split at he
  ·rename_i h0
   simp only[SN] at he
   refine iC (p:=0<=lo.getD 0/\lo.getD 0<=hi.getD l.length/\hi.getD l.length<=l.length) (v:= .d (.str e)) ?_ h0 (hk e Z)
   simp only[rd,hx,hl,hh,<-he]
  ·cases he
theorem wt {n:Int} {x i:SX} {k:IntKind} (Z:(b4 l n).bind kk=some r) (hx:ev s x= .vec id) (hh:h id= .vec e sz (aM H l)) (hi:ev s i= .d (.int k n)) (hk:∀ a,kk a=some r->aD P K sos ⟨am s dst (.vref id sz n.toNat 0),h⟩):aD P K (.r dst (.idx sz x i)::sos) ⟨s,h⟩:=by
 cases he:b4 l n with
 |none=>rw[he] at Z;cases Z
 |some a=>
  rw[he] at Z
  unfold b4 at he
  split at he
  ·rename_i h0
   obtain⟨X,_⟩:=SY.1 he
   refine iC (p:=0<=n/\n<(aM H l).length/\sz=sz) (v:= .vref id sz n.toNat 0) ?_ ⟨h0,by simp only[aM,TL];omega,rfl⟩ (hk a Z)
   simp only[rd,hi,hx,hh]
  ·cases he
theorem N0 {x:SX} {c:α->DV} (Z:(l[i]?).bind kk=some r) (hx:ev s x= .vref id sz i off) (hh:h id= .vec e sz (aM H l)) (hc:∀ a,(H a)[off]?=some (c a)) (hk:∀ a,kk a=some r->aD P K sos ⟨am s dst (.d (c a)),h⟩):aD P K (.r dst (.ld1 x)::sos) ⟨s,h⟩:=by
 cases he:l[i]? with
 |none=>rw[he] at Z;cases Z
 |some a=>
  rw[he] at Z
  refine iC (p:=sz=sz) (v:= .d (c a)) ?_ rfl (hk a Z)
  simp only[rd,hx,hh,aM,TC,he,Uf,dR,hc a,SV.noOwn,TB]
end
def fV (x y:SV):Prop:=x=y\/∃ d,x.toDV=some d/\y= .d d
def C_ (σ:St):List (Nat×SV)->Prop
 |[]=>True
 |(i,v)::l=>fV (σ.s i) v/\C_ σ l
theorem aR:C_ σ []:=trivial
theorem aK {v:SV} {l:List (Nat×SV)} (h1:fV (s i) v) (h2:C_ ⟨s,h⟩ l):C_ ⟨s,h⟩ ((i,v)::l):=⟨h1,h2⟩
theorem AZ {x y:SV} (h:x=y):fV x y:= .inl h
theorem zy {x:SV} (h:x.toDV=some d):fV x (.d d):= .inr ⟨d,h,rfl⟩
theorem aV {x y:SV} (h1:x=x') (h2:x'=y):fV x y:= .inl (h1.trans h2)
theorem Ij {x:SV} (h1:x=x') (h2:x'.toDV=some d') (E:d'=d):fV x (.d d):=by subst h1 E;exact zy h2
theorem wu {x y:SV} (h:fV x y) (hx:ai w M κ x v):ai w M κ y v:=by
 rcases h with rfl|⟨d,h1,rfl⟩
 ·exact hx
 ·exact ai.toDV x v d hx h1
theorem LK (hh:O.h=σ.h) (hs:∀ i,fV (σ.s i) (O.s i)):bm σ O:=by
 intro c κ φ a w D
 refine⟨κ,φ, ?_⟩
 exact{D with
  slots:=fun i hi=>wu (hs i) (D.slots i hi)
  ghost:=fun i v hv=>wu (hs _) (D.ghost i v hv)
  chunks:=fun id=>by rw[hh];exact D.chunks id}
theorem FT {σ:St}:∀ {l:List (Nat×SV)},C_ σ l->∀ i,lk l i= .d .any\/fV (σ.s i) (lk l i)
 |[],_,i=> .inl rfl
 |(j,v)::l,h,i=>by
  simp only[lk]
  by_cases r0:i=j
  ·subst r0;simp only[TB];exact .inr h.1
  ·simp only[r0,Tq];exact FT h.2 i
mutual
theorem A0:∀ (x:SV) (d:DV),x.toDV=some d->x.noOwn=true
 | .d _,_,_=>rfl
 | .nils,_,_=>rfl
 | .lit _ _ _,_,_=>rfl
 | .agg cs,d,h=>by
  unfold SV.toDV at h
  split at h
  ·rename_i xs hx;unfold SV.noOwn;exact lH cs xs hx
  ·cases h
 | .tup cs,d,h=>by
  unfold SV.toDV at h
  split at h
  ·rename_i xs hx;unfold SV.noOwn;exact lH cs xs hx
  ·cases h
 | .ref _ _,_,_=>rfl
 | .vec _,_,_=>rfl
 | .vref _ _ _ _,_,_=>rfl
 | .mp _,_,_=>rfl
 | .own _ _,d,h=>by unfold SV.toDV at h;cases h
theorem lH:∀ (cs:List SV) (J:List DV),SV.toDVs cs=some J->SV.noOwns cs=true
 |[],_,_=>rfl
 |c::cs,J,h=>by
  unfold SV.toDVs at h
  split at h
  ·rename_i x xs h1 h2
   unfold SV.noOwns;rw[A0 c x h1,lH cs xs h2];rfl
  ·cases h
end
theorem JK {x y:SV} (h:fV x y) (hx:aO w M κ x v F):aO w M κ y v F:=by
 rcases h with rfl|⟨d,h1,rfl⟩
 ·exact hx
 ·obtain⟨h2,rfl⟩:=aO.to_S x v F (A0 x d h1) hx
  unfold aO;exact⟨rfl,ai.toDV x v d h2 h1⟩
def Ik (x y:SV):Prop:=fV x y\/(x= .nils/\∃ e ms,y= .own (.sl e ms) (.slice []))
theorem LL {x y:SV} (h:Ik x y) (hx:aO w M κ x v F):aO w M κ y v F:=by
 rcases h with h|⟨rfl,e,ms,rfl⟩
 ·exact JK h hx
 ·simp only[aO,ai] at hx
  obtain⟨rfl,rfl⟩:=hx
  unfold aO eO
  exact⟨[],[],[],rfl,World.ownsRow_nil _ _ _ _,by simp,by simp,⟨rfl,rfl⟩,rfl⟩
inductive ag:List SV->List SV->Prop
 |nil:ag [] []
 |cons {x y:SV} {xs ys:List SV} (h:Ik x y) (hs:ag xs ys):ag (x::xs) (y::ys)
theorem ag.consS {x y:SV} (h:fV x y) (hs:ag xs ys):ag (x::xs) (y::ys):= .cons (.inl h) hs
theorem ag.rfl:∀ {l:List SV},ag l l
 |[]=> .nil
 |_::_=> .consS (.inl _root_.rfl) ag.rfl
theorem ag.append {a b c d:List SV} (h:ag a b) (k:ag c d):ag (a++c) (b++d):=by
 induction h with
 |nil=>exact k
 |cons h _ ih=>exact .cons h ih
theorem ag.length {a b:List SV} (h:ag a b):b.length=a.length:=by
 induction h with
 |nil=>exact _root_.rfl
 |cons _ _ ih=>simp[ih]
theorem yI (h:ag xs ys):∀ {vs:List Value} {F:List Nat},ap w M κ xs vs F->ap w M κ ys vs F:=by
 induction h with
 |nil=>intro vs F h;exact h
 |cons h _ ih=>
  intro vs F D
  unfold ap at D⊢
  obtain⟨u,R,W,F2,h1,h2,E,h4⟩:=D
  exact⟨u,R,W,F2,h1,h2,LL h E,ih h4⟩
inductive bL:List (List SV)->List (List SV)->Prop
 |nil:bL [] []
 |cons {x y:List SV} {xs ys:List (List SV)} (h:ag x y) (hs:bL xs ys):bL (x::xs) (y::ys)
theorem bL.rfl:∀ {l:List (List SV)},bL l l
 |[]=> .nil
 |_::_=> .cons ag.rfl bL.rfl
theorem bL.append {c d:List (List SV)} (h:bL a b) (k:bL c d):bL (a++c) (b++d):=by
 induction h with
 |nil=>exact k
 |cons h _ ih=>exact .cons h ih
theorem bL.flat (h:bL a b):ag a.flatten b.flatten/\b.length=a.length/\∀ sz,(∀ r∈a,r.length=sz)->∀ r∈b,r.length=sz:=by
 induction h with
 |nil=>exact⟨.nil,_root_.rfl,fun _ h=>h⟩
 |cons h _ ih=>
  obtain⟨h1,h2,E⟩:=ih
  refine⟨by simp only[TF];exact h.append h1,by simp[h2],fun sz hs r D=> ?_⟩
  rcases Tf.1 D with rfl|D
  ·rw[h.length];exact hs _ oS
  ·exact E sz (fun r D=>hs r (by simp[D])) r D
def xI:Ch->Ch->Prop
 | .vec e sz rows,c=>∃ f,c= .vec e sz f/\bL rows f
 | .box cs,c=>∃ C,c= .box C/\ag cs C
 |a,b=>a=b
theorem aN:∀ {a b:Ch},a=b->xI a b
 | .vec _ _ _,_,h=>⟨_,h.symm,bL.rfl⟩
 | .box _,_,h=>⟨_,h.symm,ag.rfl⟩
 | .dead,_,h=>h
 | .map _ _,_,h=>h
 | .bld _ _ _,_,h=>h
theorem cZ {a a' b:Ch} (h1:a=a') (h2:xI a' b):xI a b:=h1▸h2
theorem dG (h:bL a b):xI (.vec e sz a) (.vec e sz b):=⟨b,rfl,h⟩
theorem sO {a b:List SV} (h:ag a b):xI (.box a) (.box b):=⟨b,rfl,h⟩
theorem LM:∀ {a b:Ch},xI a b->jo w M κ id a F->jo w M κ id b F
 | .vec e sz rows,b,h,D=>by
  obtain⟨f,rfl,h⟩:=h
  obtain⟨h1,h2,E⟩:=h.flat
  obtain⟨xs,G,k1,k2,k3,k4,k5⟩:=D
  exact⟨xs,G,by rw[h2];exact k1,k2,E _ k3,yI h1 k4,k5⟩
 | .box cs,b,h,D=>by
  obtain⟨C,rfl,h⟩:=h
  obtain⟨b,T,vs,G,k1,k2,k3,k4,k5⟩:=D
  exact⟨b,T,vs,G,k1,k2,k3,yI h k4,k5⟩
 | .dead,b,h,D=>by cases h;exact D
 | .map _ _,b,h,D=>by cases h;exact D
 | .bld _ _ _,b,h,D=>by cases h;exact D
def Da (σ:St):List (Nat×Ch)->Prop
 |[]=>True
 |(i,v)::l=>xI (σ.h i) v/\Da σ l
theorem aS:Da σ []:=trivial
theorem be {v:Ch} {l:List (Nat×Ch)} (h1:xI (h i) v) (h2:Da ⟨s,h⟩ l):Da ⟨s,h⟩ ((i,v)::l):=⟨h1,h2⟩
theorem mH (hs:∀ i,fV (σ.s i) (O.s i)) (hh:∀ i,xI (σ.h i) (O.h i)):bm σ O:=by
 intro c κ φ a w D
 refine⟨κ,φ, ?_⟩
 exact{D with
  slots:=fun i hi=>wu (hs i) (D.slots i hi)
  ghost:=fun i v hv=>wu (hs _) (D.ghost i v hv)
  chunks:=fun id=>LM (hh id) (D.chunks id)}
open Classical in
theorem bH {l:List (Nat×SV)} {hl:List (Nat×Ch)} (hs:C_ σ l) (hh:Da σ hl):bm σ (st l hl):=by
 have hk:∀ {hl:List (Nat×Ch)},Da σ hl->∀ i,lh hl i= .dead\/xI (σ.h i) (lh hl i):=by
  intro hl
  induction hl with
  |nil=>intro _ i;exact .inl rfl
  |cons p hl ih=>
   obtain⟨j,v⟩:=p
   intro hk i
   simp only[lh]
   by_cases r0:i=j
   ·subst r0;simp only[TB];exact .inr hk.1
   ·simp only[r0,Tq];exact ih hk.2 i
 have h1:bm σ ⟨fun i=>if lk l i= .d .any then σ.s i else lk l i,fun i=>if lh hl i= .dead then σ.h i else lh hl i⟩:=mH (fun i=>by
  by_cases hi:lk l i= .d .any
  ·simp only[hi,TB];exact .inl rfl
  ·simp only[hi,Tq]
   rcases FT hs i with h|h
   ·exact absurd h hi
   ·exact h) (fun i=>by
  by_cases hi:lh hl i= .dead
  ·simp only[hi,TB];exact aN rfl
  ·simp only[hi,Tq]
   rcases hk hh i with h|h
   ·exact absurd h hi
   ·exact h)
 refine h1.trans (pT (fun i=> ?_) (fun i=> ?_))
 ·by_cases hi:lk l i= .d .any
  ·exact .inr hi
  ·refine .inl ?_;simp only[hi,Tq]
 ·by_cases hi:lh hl i= .dead
  ·exact .inr hi
  ·refine .inl ?_;simp only[hi,Tq]
section
variable {α:Type} {H:α->List DV}
theorem eb {l l':List (List DV)} (h:l=l'):DV.slice l=DV.slice l':=by rw[h]
theorem Rg {a b:DV} (h:a=b):SV.d a=SV.d b:=by rw[h]
theorem ec:([]:List (List DV))=([]:List α).map H:=rfl
theorem e7 {r:List DV} {rs:List (List DV)} {a:α} {l:List α} (h1:r=H a) (h2:rs=l.map H):r::rs=(a::l).map H:=by rw[h1,h2];rfl
theorem JL {r:List SV} {a:α} {l:List α} (h1:r=dR (H a)) (h2:rs=aM H l):r::rs=aM H (a::l):=by rw[h1,h2];rfl
theorem pY (id:Nat) (o:DV) (l:List α):c0 id o (aM H l)=aM H l:=D7 id o _
theorem JM (l:List α):SV.frzR (aM H l)=some (l.map H):=D8 _
theorem oZ (l:List α):(aM H l).length=l.length:=by simp[aM]
theorem Db {a b:List DV} (h:a=b):DV.tup a=DV.tup b:=by rw[h]
theorem A1 {a b:List DV} (h:a=b):DV.agg a=DV.agg b:=by rw[h]
theorem lI {a b:DV} {l l':List DV} (h:a=b) (k:l=l'):a::l=b::l':=by rw[h,k]
theorem Qc {n:UInt8} (h:d= .int .u8 n.toNat):[d]=cP n:=by rw[h];rfl
theorem Qd {l:List α} (h:d= .slice (l.map H)):[d]=fA H l:=by rw[h];rfl
theorem rk (n:Int) (h:0<=n/\n<256):DV.int .u8 n=DV.int .u8 ((UInt8.ofNat n.toNat).toNat:Int):=by
 rw[Ud (by show n.toNat<256;omega)]
 congr 1;omega
theorem uE:bL [] (aM H ([]:List α)):= .nil
theorem Pi {xs ys:List (List SV)} {l l':List α} (h1:bL xs (aM H l)) (h2:bL ys (aM H l')):bL (xs++ys) (aM H (l++l')):=by
 have:=h1.append h2
 simpa[aM] using this
theorem Hj {r:List SV} {a:α} {l:List α} (h1:ag r (dR (H a))) (h2:bL rs (aM H l)):bL (r::rs) (aM H (a::l)):= .cons h1 h2
theorem dt {l:List α}:bL (aM H l) (aM H l):=bL.rfl
end
section
variable {P:Program} {s:Nat->SV} {h:Nat->Ch} {K:St->Prop} {sos:List SO} {α:Type} {H:α->List DV}
theorem A2 (F:∀ e,(H e).length=sz) (l:List α):∀ r∈aM H l,r.length=sz:=by
 intro r D
 simp only[aM,Us,Tp,Function.comp] at D
 obtain⟨a,_,rfl⟩:=D
 simp[dR,F]
theorem o0 (l l':List α):aM H l++aM H l'=aM H (l++l'):=by simp[aM]
theorem xJ {v:SV} (hv:fV (s n) v):bm ⟨s,h⟩ ⟨am s n v,h⟩:=LK rfl fun i=>by
 by_cases hi:i=n
 ·subst hi;simp only[am,TB];exact hv
 ·simp only[am,hi,Tq];exact .inl rfl
theorem sP {l l2:List α} {m:Nat} {kk:Option R} (Z:mh (lG (l.length+l2.length)) kk=some r) (hx:s m= .vec id) (hh:h id= .vec e sz (aM H l)) (hy:s n=Y) (hd:Y.toDV=some d) (he:d= .slice (l2.map H)) (U:m≠n) (F:∀ a,(H a).length=sz) (hk:kk=some r->aD P K sos ⟨am (bl id .any (am s n (.d (.slice (l2.map H))))) dst (.vec id),am (bG id .any h) id (.vec e sz (aM H (l++l2)))⟩):aD P K (.w dst (.app e sz (.t m) (.t n))::sos) ⟨s,h⟩:=by
 cases hl:lG (l.length+l2.length) with
 |none=>rw[hl] at Z;cases Z
 |some u=>
  rw[hl] at Z
  have I:=mG.1 hl
  refine PW (xJ (n:=n) (v:= .d (.slice (l2.map H))) (by rw[hy];exact zy (he▸hd))) (p:=e=e/\sz=sz/\(∀ r∈(l2.map H).map dR,r.length=sz)/\(aM H l).length+((l2.map H).map dR).length<=137438953472) ?_ ⟨rfl,rfl,A2 F l2,by simp only[oZ,TL];exact I⟩ (hk Z)
  simp only[wr,ev,am,U,Tq,TB,hx,pM,SV.toDV,hh,cy,St.swap]
  rw[show(l2.map H).map dR=aM H l2 from rfl,o0,pY]
theorem Il {rows f:List (List SV)} {x y:SX} {kk:Option R} (Z:mh (lG n) kk=some r) (hx:ev s x= .vec id) (hh:h id= .vec e sz rows) (hy:pM (ev s y)=some f) (hn:rows.length+f.length=n) (F:(f.all fun q=>q.length==sz)=true) (hl:oQ ⟨am (bl id .any s) dst (.vec id),am (bG id .any h) id (.vec e sz (c0 id .any (rows++f)))⟩ late) (hk:kk=some r->aD P K sos ⟨am (bl id .any s) dst (.vec id),am (bG id .any h) id (.vec e sz (c0 id .any (rows++f)))⟩):aD P K (.x dst (.app e sz x y) late::sos) ⟨s,h⟩:=by
 cases g:lG n with
 |none=>rw[g] at Z;cases Z
 |some u=>
  rw[g] at Z
  have I:=mG.1 g
  refine B2 (p:=e=e/\sz=sz/\(∀ r∈f,r.length=sz)/\rows.length+f.length<=137438953472) ?_ ⟨rfl,rfl,fun q hq=>by have:=Ti.1 F q hq;simpa using this,by omega⟩ hl (hk Z)
  simp only[wr,hx,hy,hh,cy,St.swap]
theorem LN {l:List α} {a:α} {f:α->α} {v:SX} (hx:ev s p= .vref id sz i off) (hh:h id= .vec e sz (aM H l)) (hv:(ev s v).cells?=some vs) (hn:(vs.length==n)=true) (hc:∀ a,splice (dR (H a)) off vs=dR (H (f a))) (F:∀ a,(H a).length=sz) (ho:(decide (off+n<=sz))=true) (ha:l[i]?=some a) (dst:Nat):
  ∃ q,wr ⟨s,h⟩ dst (.st n p v)=some (q,⟨s,am h id (.vec e sz (aM H (l.set i (f a))))⟩)/\q:=by
 have b:(aM H l)[i]?=some (dR (H a)):=by simp[aM,TC,ha]
 refine⟨sz=sz/\vs.length=n/\off+n<=(dR (H a)).length, ?_,rfl,by simpa using hn,by simpa[dR,F] using ho⟩
 simp only[wr,hx,hh,hv,b,hc a]
 congr 2
 simp[aM,List.map_set]
theorem Hk {l:List α} {f:α->α} {cs:α->List SV} {v:SX} {kk:α->Option R} (Z:(l[i]?).bind kk=some r) (hx:ev s p= .vref id sz i off) (hh:h id= .vec e sz (aM H l)) (hv:(ev s v).cells?=some vs) (hn:(vs.length==n)=true) (F:∀ a,(H a).length=sz) (ho:(decide (off+n<=sz))=true) (d:∀ a,splice (dR (H a)) off vs=cs a) (t:∀ a,cs a=dR (H (f a))) (hl:∀ a,oQ ⟨s,am h id (.vec e sz (aM H (l.set i (f a))))⟩ late) (hk:∀ a,kk a=some r->aD P K sos ⟨s,am h id (.vec e sz (aM H (l.set i (f a))))⟩):aD P K (.x dst (.st n p v) late::sos) ⟨s,h⟩:=by
 cases ha:l[i]? with
 |none=>rw[ha] at Z;cases Z
 |some a=>
  rw[ha] at Z
  obtain⟨q,h1,h2⟩:=LN hx hh hv hn (fun a=>(d a).trans (t a)) F ho ha dst
  exact B2 h1 h2 (hl a) (hk a Z)
theorem zz {l:List α} {H:α->List DV} {x:SX} {kk:α->Option R} (Z:(l[i]?).bind kk=some r) (hx:ev s x= .vref id sz i 0) (hh:h id= .vec e sz (aM H l)) (F:∀ a,(H a).length=n) (hk:∀ a,kk a=some r->aD P K sos ⟨am s dst (.agg (dR (H a))),h⟩):aD P K (.r dst (.ldA n x)::sos) ⟨s,h⟩:=by
 cases he:l[i]? with
 |none=>rw[he] at Z;cases Z
 |some a=>
  rw[he] at Z
  have hn:SV.noOwns (dR (H a))=true:=by
   have:∀ l:List DV,SV.noOwns (dR l)=true:=fun l=>by induction l with|nil=>rfl|cons d l ih=>simpa[dR,SV.noOwns,SV.noOwn] using ih
   exact this _
  have ht:(dR (H a)).take n=dR (H a):=Tt (by simp[dR,F])
  refine iC (p:=sz=sz/\0+n<=(dR (H a)).length) (v:= .agg (dR (H a))) ?_ ⟨rfl,by simp[dR,F]⟩ (hk a Z)
  simp only[rd,hx,hh,aM,TC,he,Uf,U5,ht,hn,TB]
theorem Hl {H:α->List DV} (F:∀ a,(H a).length=n) (a b:α):splice (dR (H a)) 0 (dR (H b))=dR (H b):=by
 simp only[splice,List.take_zero,S8,Tx]
 rw[Ui (by simp[dR,F]),Tg]
theorem Qe {l:List α} {b:α} {m:Nat} {kk:α->Option R} (Z:(l[i]?).bind kk=some r) (hx:s m= .vref id sz i 0) (hh:h id= .vec e sz (aM H l)) (hy:s n=Y) (hd:Y.toDV=some d) (he:d= .agg (H b)) (U:m≠n) (F:∀ a,(H a).length=sz) (hk:∀ a,kk a=some r->aD P K sos ⟨am s n (.d (.agg (H b))),am h id (.vec e sz (aM H (l.set i b)))⟩):aD P K (.w dst (.st sz (.t m) (.t n))::sos) ⟨s,h⟩:=by
 cases ha:l[i]? with
 |none=>rw[ha] at Z;cases Z
 |some a=>
  rw[ha] at Z
  obtain⟨q,h1,h2⟩:=LN (s:=am s n (.d (.agg (H b)))) (h:=h) (p:= .t m) (v:= .t n) (f:=fun _=>b) (n:=sz) (off:=0) (vs:=dR (H b)) (by simp only[ev,am,U,Tq,hx]) hh (by simp only[ev,am,TB,SV.cells?,DV.cells?];rfl) (by simp[dR,F]) (fun a=>Hl F a b) F oS ha dst
  exact PW (xJ (n:=n) (v:= .d (.agg (H b))) (by rw[hy];exact zy (he▸hd))) h1 h2 (hk a Z)
end
attribute [push_cast] LH pX pY JM oZ l_ cP cX y0 fA TL
end Go.Proofs.YtgmnipfafmphaaaGreatDoor

