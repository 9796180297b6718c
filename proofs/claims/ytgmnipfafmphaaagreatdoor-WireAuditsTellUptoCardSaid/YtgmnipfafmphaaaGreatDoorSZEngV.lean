/-
  My text.
-/
import Derived.Test.YtgmnipfafmphaaaGreatDoorSZEngU
namespace Go.Proofs.YtgmnipfafmphaaaGreatDoor
set_option linter.unusedSimpArgs false
set_option linter.unusedVariables false
open Go.RowKit
def uA (n:Int):List DV:=[.int .i64 n]
def ka (b:UInt8):List DV:=[.int .u8 b.toNat]
def dB (s:List UInt8):List DV:=[.str s]
def zB (b:Bool):List DV:=[.bool b]
def gf {α:Type} (row:α->List DV) (l:List α):List DV:=[.slice (l.map row)]
def bH {α:Type} (row:α->List DV) (l:List α):List (List SV):=(l.map row).map dR
def mB (n:Nat):Option Unit:=if n<=137438953472 then some () else none
theorem tl {n:Nat} {u:Unit}:mB n=some u↔n<=137438953472:=by unfold mB;split<;>simp_all
def mi {R:Type} (c:Option Unit) (m:Option R):Option R:=c.bind fun _=>m
def wt {S R:Type} (mk:S->St) (Q:R->AX->St->Prop):S⊕R->AX->St->Prop
 | .inl s',.normal,σ=>ce σ (mk s')
 | .inr r,.exit i,σ=>Q r (.exit i) σ
 | .inr r,.ret,σ=>Q r .ret σ
 |_,_,_=>False
def eg {T R:Type} (k:T->Option R):T⊕R->Option R
 | .inl t=>k t
 | .inr r=>some r
def gm {S R:Type} (m:Option R):Option (S⊕R):=m.map .inr
section
variable {P:Program} {x y:SC} {σ:St} {s:Nat->SV} {h:Nat->Ch} {K:St->Prop} {sos:List SO}
theorem cj {R:Type} {r:R} {b:Bool} {m1 m2:Option R} {Q:AX->St->Prop} {t:SX} (hm:(bif b then m1 else m2)=some r) (hc:ev s t= .d (.bool b)) (hx:m1=some r->AW P x Q ⟨s,h⟩) (hy:m2=some r->AW P y Q ⟨s,h⟩):AW P (.cond t x y) Q ⟨s,h⟩:=by
 refine CH hc (fun e=> ?_) (fun e=> ?_)
 ·subst e;exact hx hm
 ·subst e;exact hy hm
theorem I0 {S R:Type} {r:R} {Q:R->AX->St->Prop} (mk:S->St) {s0:S} {step:S->Option (S⊕R)} (hm:bg step s0=some r) (h0:ce σ (mk s0)) (hb:∀ s o,step s=some o->AW P x (wt mk Q o) (mk s)):AW P (.loop x) (Q r) σ:=by
 obtain⟨n,hn⟩:=rb.1 hm
 refine EV (fun m σ=>∃ s,σ=mk s/\jA step m s=some r) n ⟨_,h0,s0,rfl,hn⟩ ?_
 rintro m _ ⟨s,rfl,hl⟩
 cases m with
 |zero=>simp[jA] at hl
 |succ m=>
  simp only[jA] at hl
  split at hl
  ·rename_i s' hs
   refine zd (fun e σ' he=> ?_) (hb s _ hs)
   cases e with
   |normal=>exact⟨m,mk s',by omega,he,s',rfl,hl⟩
   |exit i=>exact he.elim
   |ret=>exact he.elim
  ·rename_i r' hs
   simp only[K0] at hl;subst hl
   refine zd (fun e σ' he=> ?_) (hb s _ hs)
   cases e with
   |normal=>exact he.elim
   |exit i=>exact he
   |ret=>exact he
  ·cases hl
theorem ea {S R:Type} {mk:S->St} {Q:R->AX->St->Prop} {o:S⊕R} {s':S} {M:St} (hm:some (.inl s')=some o) (hM:mk s'=M) (hi:ce σ M):wt mk Q o .normal σ:=by
 cases hm;subst hM;exact hi
theorem dZ {S R:Type} {mk:S->St} {Q:R->AX->St->Prop} {o:S⊕R} {m:Option R} {i:Nat} (hm:gm m=some o) (hi:∀ r,m=some r->Q r (.exit i) σ):wt mk Q o (.exit i) σ:=by
 cases m with
 |none=>cases hm
 |some r=>cases hm;exact hi r rfl
theorem gn {S R:Type} {mk:S->St} {Q:R->AX->St->Prop} {o:S⊕R} {m:Option R} (hm:gm m=some o) (hi:∀ r,m=some r->Q r .ret σ):wt mk Q o .ret σ:=by
 cases m with
 |none=>cases hm
 |some r=>cases hm;exact hi r rfl
theorem fT {R:Type} {r r0:R} {qs:List RV} {d:DV} {enc:R->DV} (hm:some r0=some r) (hw:eN σ qs=some d) (he:d=enc r0):G9 qs (enc r) .ret σ:=by
 cases hm;subst he;exact⟨σ,ce.refl σ,hw⟩
theorem wu {A B:Type} {r:A×B} {a:A} {b:B} {qs:List RV} {d' d0:DV} {enc:A×B->DV} (hm:some (a,b)=some r) (hw:eN σ qs=some d') (h0:enc (a,b)=d0) (he:d'=d0):G9 qs (enc r) .ret σ:=fT hm hw (he.trans h0.symm)
theorem gT {v v0:Bool} {u:Nat} (hm:some v0=some v) (hw:s u= .d (.bool v0)):A1 u v ⟨s,h⟩:=by
 cases hm;exact hw
def qi (Q:AX->St->Prop):Prop:=∀ e σ σ',ce σ σ'->Q e σ'->Q e σ
theorem di {Q:AX->St->Prop} (hq:qi Q):qi (EU P y Q):=by
 intro e σ σ' hi h
 cases e with
 |normal=>exact Aw hi h
 |exit i=>exact hq _ _ _ hi h
 |ret=>exact hq _ _ _ hi h
theorem gi {Q:AX->St->Prop} {b:Nat} (hq:qi Q):qi (iH b Q):=by
 intro e σ σ' hi h
 cases e with
 |normal=>exact hq _ _ _ hi h
 |exit i=>simp only[iH] at h⊢;split at h<;>rename_i hb<;>simp only[hb,LX,LI]<;>exact hq _ _ _ hi h
 |ret=>exact hq _ _ _ hi h
theorem fd {qs:List RV} {res:DV}:qi (G9 qs res):=by
 intro e σ σ' hi h
 cases e with
 |normal=>obtain⟨σ1,h1,h2⟩:=h;exact⟨σ1,hi.trans h1,h2⟩
 |exit i=>exact h
 |ret=>obtain⟨σ1,h1,h2⟩:=h;exact⟨σ1,hi.trans h1,h2⟩
theorem iY {N n:Nat} {qs:List RV} {res:SV} {outs:List SV}:qi (vY N n qs res outs):=by
 intro e σ σ' hi h
 cases e with
 |normal=>obtain⟨σ1,h1,h2⟩:=h;exact⟨σ1,hi.trans h1,h2⟩
 |exit i=>exact h
 |ret=>obtain⟨σ1,h1,h2⟩:=h;exact⟨σ1,hi.trans h1,h2⟩
theorem jB {S R:Type} {mk:S->St} {Q:R->AX->St->Prop} {o:S⊕R} (hq:∀ r,qi (Q r)):qi (wt mk Q o):=by
 intro e σ σ' hi h
 cases o with
 |inl s'=>cases e with
  |normal=>exact hi.trans h
  |exit i=>exact h
  |ret=>exact h
 |inr r=>cases e with
  |normal=>exact h
  |exit i=>exact hq r _ _ _ hi h
  |ret=>exact hq r _ _ _ hi h
def zC {S R:Type} (b:Nat) (mk:S->St) (Q:R->AX->St->Prop):S⊕R->AX->St->Prop
 | .inl s',.exit i,σ=>i=b/\ce σ (mk s')
 | .inr r,.exit i,σ=>i≠b/\Q r (.exit i) σ
 | .inr r,.ret,σ=>Q r .ret σ
 |_,_,_=>False
theorem jC {S R:Type} {b:Nat} {mk:S->St} {Q:R->AX->St->Prop} {o:S⊕R} (hq:∀ r,qi (Q r)):qi (zC b mk Q o):=by
 intro e σ σ' hi h
 cases o with
 |inl s'=>cases e with
  |normal=>exact h
  |exit i=>exact⟨h.1,hi.trans h.2⟩
  |ret=>exact h
 |inr r=>cases e with
  |normal=>exact h
  |exit i=>exact⟨h.1,hq r _ _ _ hi h.2⟩
  |ret=>exact hq r _ _ _ hi h
theorem fU {S R:Type} {b:Nat} {mk:S->St} {Q:R->AX->St->Prop} {o:S⊕R} {s':S} {M:St} (hm:some (.inl s')=some o) (hM:mk s'=M) (hi:ce σ M):zC b mk Q o (.exit b) σ:=by
 cases hm;subst hM;exact⟨rfl,hi⟩
theorem kQ {S R:Type} {b:Nat} {mk:S->St} {Q:R->AX->St->Prop} {o:S⊕R} {m:Option R} (hm:gm m=some o) (hi:∀ r,m=some r->Q r .ret σ):zC b mk Q o .ret σ:=by
 cases m with
 |none=>cases hm
 |some r=>cases hm;exact hi r rfl
theorem Hn {C S R:Type} {r:R} {b:Nat} {Q:R->AX->St->Prop} (mk:C->S->St) {c:C} {s0:S} {step:S->Option (S⊕(S⊕R))} {k:S->Option R} (hm:(bg step s0).bind (eg k)=some r) (h0:ce σ (mk c s0)) (hq:∀ r,qi (Q r))
  (hb:∀ s o,step s=some o->AW P x (wt (mk c) (zC b (mk c) Q) o) (mk c s)) (hk:∀ s,k s=some r->Q r .normal (mk c s)):AW P (.block b (.loop x)) (Q r) σ:=by
 cases ha:bg step s0 with
 |none=>rw[ha] at hm;cases hm
 |some o=>
  rw[ha] at hm
  refine cd (zd (fun e σ' he=> ?_) (I0 (mk c) ha h0 hb))
  cases o with
  |inl t=>
   cases e with
   |normal=>exact he.elim
   |exit i=>obtain⟨h1,h2⟩:=he;subst h1;exact m9 (hq r _ _ _ h2 (hk t hm))
   |ret=>exact he.elim
  |inr r'=>
   simp only[K3,eg,K0] at hm;subst hm
   cases e with
   |normal=>exact he.elim
   |exit i=>exact oN he.1 he.2
   |ret=>exact he
theorem Ho {C S R:Type} {r:R} {b:Nat} {X:SC} {Q:R->AX->St->Prop} (hX:X= .block b (.loop x)) (mk:C->S->St) {c:C} {mk':S->St} {s0:S} {M:St} {step:S->Option (S⊕(S⊕R))} {k:S->Option R} (hm:(bg step s0).bind (eg k)=some r) (hM:mk c s0=M) (h0:ce σ M) (hmk:mk c=mk') (hq:∀ r,qi (Q r))
  (hb:∀ s o,step s=some o->AW P x (wt mk' (zC b mk' Q) o) (mk' s)) (hk:∀ s,k s=some r->Q r .normal (mk' s)):AW P X (Q r) σ:=by
 subst hmk hM;rw[hX];exact Hn mk hm h0 hq hb hk
structure dP (A B:Prop):Prop where
 a:A
 b:B
structure go {S R:Type} (P:Program) (x:SC) (Q:R->AX->St->Prop) (r:R) (b:Nat) (m:S->St) (step:S->Option (S⊕(S⊕R))) (k:S->Option R):Prop where
 hq:∀ r,qi (Q r)
 hb:∀ s o,step s=some o->AW P x (wt m (zC b m Q) o) (m s)
 hk:∀ s,k s=some r->Q r .normal (m s)
theorem go.of {S R:Type} {r:R} {b:Nat} {Q:R->AX->St->Prop} {m m':S->St} {step:S->Option (S⊕(S⊕R))} {k:S->Option R} (hmk:m=m') (hq:∀ r,qi (Q r))
  (hb:∀ s o,step s=some o->AW P x (wt m' (zC b m' Q) o) (m' s)) (hk:∀ s,k s=some r->Q r .normal (m' s)):go P x Q r b m step k:=by
 subst hmk;exact⟨hq,hb,hk⟩
theorem aF {C S R:Type} {r:R} {b:Nat} {X:SC} {Q:R->AX->St->Prop} (hX:X= .block b (.loop x)) (mk:C->S->St) {c:C} {s0:S} {M:St} {step:S->Option (S⊕(S⊕R))} {k:S->Option R} (hm:(bg step s0).bind (eg k)=some r) (hM:mk c s0=M)
  (h:dP (ce σ M) (go P x Q r b (mk c) step k)):AW P X (Q r) σ:=Ho hX mk hm hM h.a rfl h.b.hq h.b.hb h.b.hk
theorem Kv {A R:Type} {r:R} {a:Option A} {k:A->Option R} {enc:A->DV} {dst f:Nat} {args:List SX} {as:List DV} (hm:a.bind k=some r) (ha:SV.toDVs (args.map (ev s))=some as) (hs:∀ x,a=some x->ae P f as (enc x)) (hk:∀ x,k x=some r->aA P K sos ⟨ak s dst (.d (enc x)),h⟩):aA P K (.c dst (.f f) args::sos) ⟨s,h⟩:=by
 cases hx:a with
 |none=>rw[hx] at hm;cases hm
 |some x=>rw[hx] at hm;exact KV ha (hs x hx) (hk x hm)
theorem mb {A R:Type} {r:R} {a:Option A} {k:A->Option R} {enc:A->DV} {dst f:Nat} {args:List SX} {as0 as:List DV} (hm:a.bind k=some r) (ha:SV.toDVs (args.map (ev s))=some as0) (hs:∀ x,a=some x->ae P f as (enc x)) (he:as0=as) (hk:∀ x,k x=some r->aA P K sos ⟨ak s dst (.d (enc x)),h⟩):aA P K (.c dst (.f f) args::sos) ⟨s,h⟩:=by
 subst he;exact Kv hm ha hs hk
theorem Ft {A R:Type} {r:R} {a:Option A} {k:A->Option R} {enc:A->DV} {dst t f:Nat} {args:List SX} {as caps:List DV} (hm:a.bind k=some r) (hf:s t= .d (.fn f caps)) (ha:SV.toDVs (args.map (ev s))=some as) (hs:∀ x,a=some x->ae P f (as++caps) (enc x)) (hk:∀ x,k x=some r->aA P K sos ⟨ak s dst (.d (enc x)),h⟩):aA P K (.c dst (.t t) args::sos) ⟨s,h⟩:=by
 cases hx:a with
 |none=>rw[hx] at hm;cases hm
 |some x=>rw[hx] at hm;exact Kr hf ha (hs x hx) (hk x hm)
theorem fV {dst:Nat} {op:l_} (hw:aA P K (.r dst op::sos) ⟨s,h⟩):aA P K (.o dst op::sos) ⟨s,h⟩:=by
 simp only[aA,AO] at hw⊢
 split at hw
 ·rename_i p v hr;exact⟨⟨s,h⟩,ce.refl _,p,v,hr,hw.1,hw.2⟩
 ·exact hw.elim
theorem zD {α:Type} {l:List α} {row:α->List DV} {sz:Nat} {n:Int} {e:α} {x i:SX} {k:IntKind} (hx:ev s x= .d (.slice (l.map row))) (hi:ev s i= .d (.int k n)) (hsz:∀ e,(row e).length=sz) (he:cO l n=some e):
  rd h s (.idx sz x i)=some (0<=n/\(row e).length=sz,.d (.ptr (row e)))/\0<=n/\(row e).length=sz:=by
 unfold cO at he
 split at he
 ·rename_i h0
  refine⟨?_,h0,hsz e⟩
  simp only[rd,hi,hx,LD,he,Me]
 ·cases he
theorem gy {R α:Type} {r:R} {l:List α} {row:α->List DV} {sz:Nat} {n:Int} {x i:SX} {k:IntKind} {dst:Nat} {kk:α->Option R} (hm:(cO l n).bind kk=some r) (hx:ev s x= .d (.slice (l.map row))) (hi:ev s i= .d (.int k n)) (hsz:∀ e,(row e).length=sz)
  (hk:∀ e,kk e=some r->aA P K sos ⟨ak s dst (.d (.ptr (row e))),h⟩):aA P K (.r dst (.idx sz x i)::sos) ⟨s,h⟩:=by
 cases he:cO l n with
 |none=>rw[he] at hm;cases hm
 |some e=>
  rw[he] at hm
  obtain⟨h1,h2⟩:=zD (h:=h) hx hi hsz he
  exact j1 h1 h2 (hk e hm)
theorem va {R:Type} {r:R} {l:List UInt8} {n:Int} {x i:SX} {k:IntKind} {dst:Nat} {kk:UInt8->Option R} (hm:(cO l n).bind kk=some r) (hx:ev s x= .d (.str l)) (hi:ev s i= .d (.int k n))
  (hk:∀ e,kk e=some r->aA P K sos ⟨ak s dst (.d (.int .u8 (e.toNat:Int))),h⟩):aA P K (.r dst (.sidx x i)::sos) ⟨s,h⟩:=by
 cases he:cO l n with
 |none=>rw[he] at hm;cases hm
 |some e=>
  rw[he] at hm
  unfold cO at he
  split at he
  ·rename_i h0
   refine j1 (p:=0<=n) (v:= .d (.int .u8 e.toNat)) ?_ h0 (hk e hm)
   simp only[rd,hi,hx,he]
  ·cases he
theorem B6 {R α:Type} {r:R} {l:List α} {row:α->List DV} {sz:Nat} {lo hi:Option Int} {x:SX} {i j:Option SX} {dst:Nat} {kk:List α->Option R} (hm:(fB l (lo.getD 0) (hi.getD l.length)).bind kk=some r) (hx:ev s x= .d (.slice (l.map row))) (hl:zR s i=some lo) (hh:zR s j=some hi) (hsz:∀ e,(row e).length=sz)
  (hk:∀ e,kk e=some r->aA P K sos ⟨ak s dst (.d (.slice (e.map row))),h⟩):aA P K (.r dst (.slc sz x i j)::sos) ⟨s,h⟩:=by
 cases he:fB l (lo.getD 0) (hi.getD l.length) with
 |none=>rw[he] at hm;cases hm
 |some e=>
  rw[he] at hm
  unfold fB at he
  split at he
  ·rename_i h0
   simp only[K0] at he
   refine j1 (p:=(∀ r∈l.map row,r.length=sz)/\0<=lo.getD 0/\lo.getD 0<=hi.getD (l.map row).length/\hi.getD (l.map row).length<=(l.map row).length) (v:= .d (.slice (e.map row))) ?_ ⟨fun q hq=>by obtain⟨z,_,rfl⟩:=Lt.1 hq;exact hsz z,by simpa using h0⟩ (hk e hm)
   simp only[rd,hx,hl,hh,<-he,List.map_drop,List.map_take,LN]
  ·cases he
theorem rZ {R α:Type} {r:R} {l:List α} {row:α->List DV} {sz e id:Nat} {n:Int} {x i:SX} {k:IntKind} {dst:Nat} {kk:α->Option R} (hm:(cO l n).bind kk=some r) (hx:ev s x= .vec id) (hh:h id= .vec e sz (bH row l)) (hi:ev s i= .d (.int k n))
  (hk:∀ a,kk a=some r->aA P K sos ⟨ak s dst (.vref id sz n.toNat 0),h⟩):aA P K (.r dst (.idx sz x i)::sos) ⟨s,h⟩:=by
 cases he:cO l n with
 |none=>rw[he] at hm;cases hm
 |some a=>
  rw[he] at hm
  unfold cO at he
  split at he
  ·rename_i h0
   obtain⟨hlt,_⟩:=K5.1 he
   refine j1 (p:=0<=n/\n<(bH row l).length/\sz=sz) (v:= .vref id sz n.toNat 0) ?_ ⟨h0,by simp only[bH,LN];omega,rfl⟩ (hk a hm)
   simp only[rd,hi,hx,hh]
  ·cases he
theorem Hp {R α:Type} {r:R} {l:List α} {row:α->List DV} {sz e id i off:Nat} {x:SX} {dst:Nat} {c:α->DV} {kk:α->Option R} (hm:(l[i]?).bind kk=some r) (hx:ev s x= .vref id sz i off) (hh:h id= .vec e sz (bH row l)) (hc:∀ a,(row a)[off]?=some (c a))
  (hk:∀ a,kk a=some r->aA P K sos ⟨ak s dst (.d (c a)),h⟩):aA P K (.r dst (.ld1 x)::sos) ⟨s,h⟩:=by
 cases he:l[i]? with
 |none=>rw[he] at hm;cases hm
 |some a=>
  rw[he] at hm
  refine j1 (p:=sz=sz) (v:= .d (c a)) ?_ rfl (hk a hm)
  simp only[rd,hx,hh,bH,LD,he,Me,dR,hc a,SV.noOwn,LX]
end
def ou (x y:SV):Prop:=x=y\/∃ d,x.toDV=some d/\y= .d d
def yt (σ:St):List (Nat×SV)->Prop
 |[]=>True
 |(i,v)::l=>ou (σ.s i) v/\yt σ l
theorem bS {σ:St}:yt σ []:=trivial
theorem bi {s:Nat->SV} {h:Nat->Ch} {i:Nat} {v:SV} {l:List (Nat×SV)} (h1:ou (s i) v) (h2:yt ⟨s,h⟩ l):yt ⟨s,h⟩ ((i,v)::l):=⟨h1,h2⟩
theorem zE {x:SV} {d:DV} (h:x.toDV=some d):ou x (.d d):= .inr ⟨d,h,rfl⟩
theorem ck {x x' y:SV} (h1:x=x') (h2:x'=y):ou x y:= .inl (h1.trans h2)
theorem r_ {w:World} {M:Nat->Prop} {κ:Nat->Value} {x y:SV} {v:Value} (h:ou x y) (hx:ag w M κ x v):ag w M κ y v:=by
 rcases h with rfl|⟨d,h1,rfl⟩
 ·exact hx
 ·exact ag.toDV x v d hx h1
theorem Fu {σ σ':St} (hh:σ'.h=σ.h) (hs:∀ i,ou (σ.s i) (σ'.s i)):ce σ σ':=by
 intro c κ φ a w hr
 refine⟨κ,φ, ?_⟩
 exact{hr with
  slots:=fun i hi=>r_ (hs i) (hr.slots i hi)
  ghost:=fun i v hv=>r_ (hs _) (hr.ghost i v hv)
  chunks:=fun id=>by rw[hh];exact hr.chunks id}
theorem A2 {σ:St}:∀ {l:List (Nat×SV)},yt σ l->∀ i,lk l i= .d .any\/ou (σ.s i) (lk l i)
 |[],_,i=> .inl rfl
 |(j,v)::l,h,i=>by
  simp only[lk]
  by_cases hij:i=j
  ·subst hij;simp only[LX];exact .inr h.1
  ·simp only[hij,LI];exact A2 h.2 i
mutual
theorem wv:∀ (x:SV) (d:DV),x.toDV=some d->x.noOwn=true
 | .d _,_,_=>rfl
 | .nils,_,_=>rfl
 | .lit _ _ _,_,_=>rfl
 | .agg cs,d,h=>by
  unfold SV.toDV at h
  split at h
  ·rename_i xs hx;unfold SV.noOwn;exact hJ cs xs hx
  ·cases h
 | .tup cs,d,h=>by
  unfold SV.toDV at h
  split at h
  ·rename_i xs hx;unfold SV.noOwn;exact hJ cs xs hx
  ·cases h
 | .ref _ _,_,_=>rfl
 | .vec _,_,_=>rfl
 | .vref _ _ _ _,_,_=>rfl
 | .mp _,_,_=>rfl
 | .own _ _,d,h=>by unfold SV.toDV at h;cases h
theorem hJ:∀ (cs:List SV) (ds:List DV),SV.toDVs cs=some ds->SV.noOwns cs=true
 |[],_,_=>rfl
 |c::cs,ds,h=>by
  unfold SV.toDVs at h
  split at h
  ·rename_i x xs h1 h2
   unfold SV.noOwns;rw[wv c x h1,hJ cs xs h2];rfl
  ·cases h
end
theorem DH {w:World} {M:Nat->Prop} {κ:Nat->Value} {x y:SV} {v:Value} {F:List Nat} (h:ou x y) (hx:ao w M κ x v F):ao w M κ y v F:=by
 rcases h with rfl|⟨d,h1,rfl⟩
 ·exact hx
 ·obtain⟨h2,rfl⟩:=ao.to_S x v F (wv x d h1) hx
  unfold ao;exact⟨rfl,ag.toDV x v d h2 h1⟩
def Js (x y:SV):Prop:=ou x y\/(x= .nils/\∃ e ms,y= .own (.sl e ms) (.slice []))
theorem Fv {w:World} {M:Nat->Prop} {κ:Nat->Value} {x y:SV} {v:Value} {F:List Nat} (h:Js x y) (hx:ao w M κ x v F):ao w M κ y v F:=by
 rcases h with h|⟨rfl,e,ms,rfl⟩
 ·exact DH h hx
 ·simp only[ao,ag] at hx
  obtain⟨rfl,rfl⟩:=hx
  unfold ao dz
  exact⟨[],[],[],rfl,World.ownsRow_nil _ _ _ _,by simp,by simp,⟨rfl,rfl⟩,rfl⟩
inductive aC:List SV->List SV->Prop
 |nil:aC [] []
 |cons {x y:SV} {xs ys:List SV} (h:Js x y) (hs:aC xs ys):aC (x::xs) (y::ys)
theorem aC.consS {x y:SV} {xs ys:List SV} (h:ou x y) (hs:aC xs ys):aC (x::xs) (y::ys):= .cons (.inl h) hs
theorem aC.rfl:∀ {l:List SV},aC l l
 |[]=> .nil
 |_::_=> .consS (.inl _root_.rfl) aC.rfl
theorem aC.append {a b c d:List SV} (h:aC a b) (k:aC c d):aC (a++c) (b++d):=by
 induction h with
 |nil=>exact k
 |cons h _ ih=>exact .cons h ih
theorem aC.length {a b:List SV} (h:aC a b):b.length=a.length:=by
 induction h with
 |nil=>exact _root_.rfl
 |cons _ _ ih=>simp[ih]
theorem uh {w:World} {M:Nat->Prop} {κ:Nat->Value} {xs ys:List SV} (h:aC xs ys):∀ {vs:List Value} {F:List Nat},aj w M κ xs vs F->aj w M κ ys vs F:=by
 induction h with
 |nil=>intro vs F h;exact h
 |cons h _ ih=>
  intro vs F hr
  unfold aj at hr⊢
  obtain⟨u,us,F1,F2,h1,h2,h3,h4⟩:=hr
  exact⟨u,us,F1,F2,h1,h2,Fv h h3,ih h4⟩
inductive cH:List (List SV)->List (List SV)->Prop
 |nil:cH [] []
 |cons {x y:List SV} {xs ys:List (List SV)} (h:aC x y) (hs:cH xs ys):cH (x::xs) (y::ys)
theorem cH.rfl:∀ {l:List (List SV)},cH l l
 |[]=> .nil
 |_::_=> .cons aC.rfl cH.rfl
theorem cH.append {a b c d:List (List SV)} (h:cH a b) (k:cH c d):cH (a++c) (b++d):=by
 induction h with
 |nil=>exact k
 |cons h _ ih=>exact .cons h ih
theorem cH.flat {a b:List (List SV)} (h:cH a b):aC a.flatten b.flatten/\b.length=a.length/\∀ sz,(∀ r∈a,r.length=sz)->∀ r∈b,r.length=sz:=by
 induction h with
 |nil=>exact⟨.nil,_root_.rfl,fun _ h=>h⟩
 |cons h _ ih=>
  obtain⟨h1,h2,h3⟩:=ih
  refine⟨by simp only[LC];exact h.append h1,by simp[h2],fun sz hs r hr=> ?_⟩
  rcases Li.1 hr with rfl|hr
  ·rw[h.length];exact hs _ oS
  ·exact h3 sz (fun r hr=>hs r (by simp[hr])) r hr
def tm:Ch->Ch->Prop
 | .vec e sz rows,c=>∃ rows',c= .vec e sz rows'/\cH rows rows'
 | .box cs,c=>∃ cs',c= .box cs'/\aC cs cs'
 |a,b=>a=b
theorem bk:∀ {a b:Ch},a=b->tm a b
 | .vec _ _ _,_,h=>⟨_,h.symm,cH.rfl⟩
 | .box _,_,h=>⟨_,h.symm,aC.rfl⟩
 | .dead,_,h=>h
 | .map _ _,_,h=>h
 | .bld _ _ _,_,h=>h
theorem gj {a a' b:Ch} (h1:a=a') (h2:tm a' b):tm a b:=h1▸h2
theorem gU {e sz:Nat} {a b:List (List SV)} (h:cH a b):tm (.vec e sz a) (.vec e sz b):=⟨b,rfl,h⟩
theorem A3 {a b:List SV} (h:aC a b):tm (.box a) (.box b):=⟨b,rfl,h⟩
theorem Fw {w:World} {M:Nat->Prop} {κ:Nat->Value} {id:Nat} {F:List Nat}:∀ {a b:Ch},tm a b->gY w M κ id a F->gY w M κ id b F
 | .vec e sz rows,b,h,hr=>by
  obtain⟨rows',rfl,h⟩:=h
  obtain⟨h1,h2,h3⟩:=h.flat
  obtain⟨xs,G,k1,k2,k3,k4,k5⟩:=hr
  exact⟨xs,G,by rw[h2];exact k1,k2,h3 _ k3,uh h1 k4,k5⟩
 | .box cs,b,h,hr=>by
  obtain⟨cs',rfl,h⟩:=h
  obtain⟨b,T,vs,G,k1,k2,k3,k4,k5⟩:=hr
  exact⟨b,T,vs,G,k1,k2,k3,uh h k4,k5⟩
 | .dead,b,h,hr=>by cases h;exact hr
 | .map _ _,b,h,hr=>by cases h;exact hr
 | .bld _ _ _,b,h,hr=>by cases h;exact hr
def yu (σ:St):List (Nat×Ch)->Prop
 |[]=>True
 |(i,v)::l=>tm (σ.h i) v/\yu σ l
theorem bT {σ:St}:yu σ []:=trivial
theorem c8 {s:Nat->SV} {h:Nat->Ch} {i:Nat} {v:Ch} {l:List (Nat×Ch)} (h1:tm (h i) v) (h2:yu ⟨s,h⟩ l):yu ⟨s,h⟩ ((i,v)::l):=⟨h1,h2⟩
theorem lL {σ σ':St} (hs:∀ i,ou (σ.s i) (σ'.s i)) (hh:∀ i,tm (σ.h i) (σ'.h i)):ce σ σ':=by
 intro c κ φ a w hr
 refine⟨κ,φ, ?_⟩
 exact{hr with
  slots:=fun i hi=>r_ (hs i) (hr.slots i hi)
  ghost:=fun i v hv=>r_ (hs _) (hr.ghost i v hv)
  chunks:=fun id=>Fw (hh id) (hr.chunks id)}
open Classical in
theorem dt {σ:St} {l:List (Nat×SV)} {hl:List (Nat×Ch)} (hs:yt σ l) (hh:yu σ hl):ce σ (st l hl):=by
 have hk:∀ {hl:List (Nat×Ch)},yu σ hl->∀ i,lh hl i= .dead\/tm (σ.h i) (lh hl i):=by
  intro hl
  induction hl with
  |nil=>intro _ i;exact .inl rfl
  |cons p hl ih=>
   obtain⟨j,v⟩:=p
   intro hk i
   simp only[lh]
   by_cases hij:i=j
   ·subst hij;simp only[LX];exact .inr hk.1
   ·simp only[hij,LI];exact ih hk.2 i
 have h1:ce σ ⟨fun i=>if lk l i= .d .any then σ.s i else lk l i,fun i=>if lh hl i= .dead then σ.h i else lh hl i⟩:=lL (fun i=>by
  by_cases hi:lk l i= .d .any
  ·simp only[hi,LX];exact .inl rfl
  ·simp only[hi,LI]
   rcases A2 hs i with h|h
   ·exact absurd h hi
   ·exact h) (fun i=>by
  by_cases hi:lh hl i= .dead
  ·simp only[hi,LX];exact bk rfl
  ·simp only[hi,LI]
   rcases hk hh i with h|h
   ·exact absurd h hi
   ·exact h)
 refine h1.trans (na (fun i=> ?_) (fun i=> ?_))
 ·by_cases hi:lk l i= .d .any
  ·exact .inr hi
  ·refine .inl ?_;simp only[hi,LI]
 ·by_cases hi:lh hl i= .dead
  ·exact .inr hi
  ·refine .inl ?_;simp only[hi,LI]
section
variable {α:Type} {row:α->List DV}
theorem ew {l l':List (List DV)} (h:l=l'):DV.slice l=DV.slice l':=by rw[h]
theorem ex:([]:List (List DV))=([]:List α).map row:=rfl
theorem eL {r:List DV} {rs:List (List DV)} {a:α} {l:List α} (h1:r=row a) (h2:rs=l.map row):r::rs=(a::l).map row:=by rw[h1,h2];rfl
theorem tn (id:Nat) (dv:DV) (l:List α):cF id dv (bH row l)=bH row l:=zi id dv _
theorem DI (l:List α):SV.frzR (bH row l)=some (l.map row):=zj _
theorem ui (l:List α):(bH row l).length=l.length:=by simp[bH]
theorem Fy {a b:List DV} (h:a=b):DV.tup a=DV.tup b:=by rw[h]
theorem Il {a b:List DV} (h:a=b):DV.agg a=DV.agg b:=by rw[h]
theorem mC {a b:DV} {l l':List DV} (h:a=b) (k:l=l'):a::l=b::l':=by rw[h,k]
theorem I1 {d:DV} {l:List α} (h:d= .slice (l.map row)):[d]=gf row l:=by rw[h];rfl
theorem B7 (n:Int) (h:0<=n/\n<256):DV.int .u8 n=DV.int .u8 ((UInt8.ofNat n.toNat).toNat:Int):=by
 rw[MM (by show n.toNat<256;omega)]
 congr 1;omega
theorem CP:cH [] (bH row ([]:List α)):= .nil
theorem I2 {r:List SV} {rs:List (List SV)} {a:α} {l:List α} (h1:aC r (dR (row a))) (h2:cH rs (bH row l)):cH (r::rs) (bH row (a::l)):= .cons h1 h2
theorem k0 {l:List α}:cH (bH row l) (bH row l):=cH.rfl
end
section
variable {P:Program} {s:Nat->SV} {h:Nat->Ch} {K:St->Prop} {sos:List SO} {α:Type} {row:α->List DV}
theorem A4 {sz:Nat} (hsz:∀ e,(row e).length=sz) (l:List α):∀ r∈bH row l,r.length=sz:=by
 intro r hr
 simp only[bH,MD,Lt,Function.comp] at hr
 obtain⟨a,_,rfl⟩:=hr
 simp[dR,hsz]
theorem uj (l l':List α):bH row l++bH row l'=bH row (l++l'):=by simp[bH]
theorem tq {n:Nat} {v:SV} (hv:ou (s n) v):ce ⟨s,h⟩ ⟨ak s n v,h⟩:=Fu rfl fun i=>by
 by_cases hi:i=n
 ·subst hi;simp only[ak,LX];exact hv
 ·simp only[ak,hi,LI];exact .inl rfl
theorem zF {R:Type} {r:R} {l l2:List α} {m n dst e sz id:Nat} {Y:SV} {d:DV} {kk:Option R} (hm:mi (mB (l.length+l2.length)) kk=some r) (hx:s m= .vec id) (hh:h id= .vec e sz (bH row l)) (hy:s n=Y) (hd:Y.toDV=some d) (he:d= .slice (l2.map row)) (hne:m≠n) (hsz:∀ a,(row a).length=sz)
  (hk:kk=some r->aA P K sos ⟨ak (ca id .any (ak s n (.d (.slice (l2.map row))))) dst (.vec id),ak (ct id .any h) id (.vec e sz (bH row (l++l2)))⟩):aA P K (.w dst (.app e sz (.t m) (.t n))::sos) ⟨s,h⟩:=by
 cases hl:mB (l.length+l2.length) with
 |none=>rw[hl] at hm;cases hm
 |some u=>
  rw[hl] at hm
  have hlen:=tl.1 hl
  refine IH (tq (n:=n) (v:= .d (.slice (l2.map row))) (by rw[hy];exact zE (he▸hd))) (p:=e=e/\sz=sz/\(∀ r∈(l2.map row).map dR,r.length=sz)/\(bH row l).length+((l2.map row).map dR).length<=137438953472) ?_ ⟨rfl,rfl,A4 hsz l2,by simp only[ui,LN];exact hlen⟩ (hk hm)
  simp only[wr,ev,ak,hne,LI,LX,hx,qt,SV.toDV,hh,cm,St.swap]
  rw[show(l2.map row).map dR=bH row l2 from rfl,uj,tn]
theorem Fz {l:List α} {a:α} {f:α->α} {e sz id i off n:Nat} {p v:SX} {vs:List SV} (hx:ev s p= .vref id sz i off) (hh:h id= .vec e sz (bH row l)) (hv:(ev s v).cells?=some vs) (hn:(vs.length==n)=true) (hc:∀ a,splice (dR (row a)) off vs=dR (row (f a))) (hsz:∀ a,(row a).length=sz) (ho:(decide (off+n<=sz))=true) (ha:l[i]?=some a) (dst:Nat):
  ∃ q,wr ⟨s,h⟩ dst (.st n p v)=some (q,⟨s,ak h id (.vec e sz (bH row (l.set i (f a))))⟩)/\q:=by
 have hri:(bH row l)[i]?=some (dR (row a)):=by simp[bH,LD,ha]
 refine⟨sz=sz/\vs.length=n/\off+n<=(dR (row a)).length, ?_,rfl,by simpa using hn,by simpa[dR,hsz] using ho⟩
 simp only[wr,hx,hh,hv,hri,hc a]
 congr 2
 simp[bH,List.map_set]
theorem B8 {R:Type} {r:R} {l:List α} {f:α->α} {cs:α->List SV} {dst e sz id i off n:Nat} {p v:SX} {vs:List SV} {late:List (Nat×Nat×l_)} {kk:α->Option R} (hm:(l[i]?).bind kk=some r) (hx:ev s p= .vref id sz i off) (hh:h id= .vec e sz (bH row l)) (hv:(ev s v).cells?=some vs) (hn:(vs.length==n)=true) (hsz:∀ a,(row a).length=sz) (ho:(decide (off+n<=sz))=true) (hc0:∀ a,splice (dR (row a)) off vs=cs a) (hc1:∀ a,cs a=dR (row (f a)))
  (hl:∀ a,p7 ⟨s,ak h id (.vec e sz (bH row (l.set i (f a))))⟩ late)
  (hk:∀ a,kk a=some r->aA P K sos ⟨s,ak h id (.vec e sz (bH row (l.set i (f a))))⟩):aA P K (.x dst (.st n p v) late::sos) ⟨s,h⟩:=by
 cases ha:l[i]? with
 |none=>rw[ha] at hm;cases hm
 |some a=>
  rw[ha] at hm
  obtain⟨q,h1,h2⟩:=Fz hx hh hv hn (fun a=>(hc0 a).trans (hc1 a)) hsz ho ha dst
  exact GA h1 h2 (hl a) (hk a hm)
theorem vb {R α:Type} {r:R} {l:List α} {row:α->List DV} {sz n e id i:Nat} {x:SX} {dst:Nat} {kk:α->Option R} (hm:(l[i]?).bind kk=some r) (hx:ev s x= .vref id sz i 0) (hh:h id= .vec e sz (bH row l)) (hsz:∀ a,(row a).length=n)
  (hk:∀ a,kk a=some r->aA P K sos ⟨ak s dst (.agg (dR (row a))),h⟩):aA P K (.r dst (.ldA n x)::sos) ⟨s,h⟩:=by
 cases he:l[i]? with
 |none=>rw[he] at hm;cases hm
 |some a=>
  rw[he] at hm
  have hn:SV.noOwns (dR (row a))=true:=by
   have:∀ l:List DV,SV.noOwns (dR l)=true:=fun l=>by induction l with|nil=>rfl|cons d l ih=>simpa[dR,SV.noOwns,SV.noOwn] using ih
   exact this _
  have ht:(dR (row a)).take n=dR (row a):=Lu (by simp[dR,hsz])
  refine j1 (p:=sz=sz/\0+n<=(dR (row a)).length) (v:= .agg (dR (row a))) ?_ ⟨rfl,by simp[dR,hsz]⟩ (hk a hm)
  simp only[rd,hx,hh,bH,LD,he,Me,Nc,ht,hn,LX]
theorem B9 {row:α->List DV} {n:Nat} (hsz:∀ a,(row a).length=n) (a b:α):splice (dR (row a)) 0 (dR (row b))=dR (row b):=by
 simp only[splice,List.take_zero,Lk,LF]
 rw[L8 (by simp[dR,hsz]),Lr]
theorem I3 {R:Type} {r:R} {l:List α} {b:α} {dst e sz id i m n:Nat} {Y:SV} {d:DV} {kk:α->Option R} (hm:(l[i]?).bind kk=some r) (hx:s m= .vref id sz i 0) (hh:h id= .vec e sz (bH row l)) (hy:s n=Y) (hd:Y.toDV=some d) (he:d= .agg (row b)) (hne:m≠n) (hsz:∀ a,(row a).length=sz)
  (hk:∀ a,kk a=some r->aA P K sos ⟨ak s n (.d (.agg (row b))),ak h id (.vec e sz (bH row (l.set i b)))⟩):aA P K (.w dst (.st sz (.t m) (.t n))::sos) ⟨s,h⟩:=by
 cases ha:l[i]? with
 |none=>rw[ha] at hm;cases hm
 |some a=>
  rw[ha] at hm
  obtain⟨q,h1,h2⟩:=Fz (s:=ak s n (.d (.agg (row b)))) (h:=h) (p:= .t m) (v:= .t n) (f:=fun _=>b) (n:=sz) (off:=0) (vs:=dR (row b)) (by simp only[ev,ak,hne,LI,hx]) hh (by simp only[ev,ak,LX,SV.cells?,DV.cells?];rfl) (by simp[dR,hsz]) (fun a=>B9 hsz a b) hsz oS ha dst
  exact IH (tq (n:=n) (v:= .d (.agg (row b))) (by rw[hy];exact zE (he▸hd))) h1 h2 (hk a hm)
end
attribute [push_cast] Fr nf tn DI ui uA ka dB zB gf LN
end Go.Proofs.YtgmnipfafmphaaaGreatDoor

