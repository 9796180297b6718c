/-
  My text.
-/
import Derived.Test.YteaolfcegaidpaaGreatDoorSXEngU
namespace Go.Proofs.YteaolfcegaidpaaGreatDoor
set_option linter.unusedSimpArgs false
set_option linter.unusedVariables false
open Go.RowKit
def xJ (n:Int):List DV:=[.int .i64 n]
def Gv (b:UInt8):List DV:=[.int .u8 b.toNat]
def fG (s:List UInt8):List DV:=[.str s]
def AR (b:Bool):List DV:=[.bool b]
def tu {α:Type} (row:α->List DV) (l:List α):List DV:=[.slice (l.map row)]
def cm {α:Type} (row:α->List DV) (l:List α):List (List SV):=(l.map row).map dR
def sN (n:Nat):Option Unit:=if n<=137438953472 then some () else none
theorem xK {n:Nat} {u:Unit}:sN n=some u↔n<=137438953472:=by unfold sN;split<;>simp_all
def Gw (n:Nat):Option Unit:=if n<=1000000000000 then some () else none
theorem Gx {n:Nat} {u:Unit}:Gw n=some u↔n<=1000000000000:=by unfold Gw;split<;>simp_all
def lS {R:Type} (c:Option Unit) (m:Option R):Option R:=c.bind fun _=>m
def xL {S R:Type} (mk:S->St) (Q:R->AX->St->Prop):S⊕R->AX->St->Prop
 | .inl s',.normal,σ=>f0 σ (mk s')
 | .inr r,.exit i,σ=>Q r (.exit i) σ
 | .inr r,.ret,σ=>Q r .ret σ
 |_,_,_=>False
def dg {T R:Type} (k:T->Option R):T⊕R->Option R
 | .inl t=>k t
 | .inr r=>some r
def dy {S R:Type} (m:Option R):Option (S⊕R):=m.map .inr
section
variable {P:Program} {x y:SC} {σ:St} {s:Nat->SV} {h:Nat->Ch} {K:St->Prop} {sos:List SO}
theorem aM {R:Type} {r:R} {b:Bool} {m1 m2:Option R} {Q:AX->St->Prop} {t:SX} (hm:(bif b then m1 else m2)=some r) (hc:ev s t= .d (.bool b)) (hx:m1=some r->AW P x Q ⟨s,h⟩) (hy:m2=some r->AW P y Q ⟨s,h⟩):AW P (.cond t x y) Q ⟨s,h⟩:=by
 refine IP hc (fun e=> ?_) (fun e=> ?_)
 ·subst e;exact hx hm
 ·subst e;exact hy hm
theorem Kw {S R:Type} {r:R} {Q:R->AX->St->Prop} (mk:S->St) {s0:S} {step:S->Option (S⊕R)} (hm:dD step s0=some r) (h0:f0 σ (mk s0)) (hb:∀ s o,step s=some o->AW P x (xL mk Q o) (mk s)):AW P (.loop x) (Q r) σ:=by
 obtain⟨n,hn⟩:=vM.1 hm
 refine Kb (fun m σ=>∃ s,σ=mk s/\mw step m s=some r) n ⟨_,h0,s0,rfl,hn⟩ ?_
 rintro m _ ⟨s,rfl,hl⟩
 cases m with
 |zero=>simp[mw] at hl
 |succ m=>
  simp only[mw] at hl
  split at hl
  ·rename_i s' hs
   refine zJ (fun e σ' he=> ?_) (hb s _ hs)
   cases e with
   |normal=>exact⟨m,mk s',by omega,he,s',rfl,hl⟩
   |exit i=>exact he.elim
   |ret=>exact he.elim
  ·rename_i r' hs
   simp only[L7] at hl;subst hl
   refine zJ (fun e σ' he=> ?_) (hb s _ hs)
   cases e with
   |normal=>exact he.elim
   |exit i=>exact he
   |ret=>exact he
  ·cases hl
theorem bB {S R:Type} {mk:S->St} {Q:R->AX->St->Prop} {o:S⊕R} {s':S} {M:St} (hm:some (.inl s')=some o) (hM:mk s'=M) (hi:f0 σ M):xL mk Q o .normal σ:=by
 cases hm;subst hM;exact hi
theorem bH {S R:Type} {mk:S->St} {Q:R->AX->St->Prop} {o:S⊕R} {m:Option R} {i:Nat} (hm:dy m=some o) (hi:∀ r,m=some r->Q r (.exit i) σ):xL mk Q o (.exit i) σ:=by
 cases m with
 |none=>cases hm
 |some r=>cases hm;exact hi r rfl
theorem cb {S R:Type} {mk:S->St} {Q:R->AX->St->Prop} {o:S⊕R} {m:Option R} (hm:dy m=some o) (hi:∀ r,m=some r->Q r .ret σ):xL mk Q o .ret σ:=by
 cases m with
 |none=>cases hm
 |some r=>cases hm;exact hi r rfl
theorem bC {R:Type} {r r0:R} {qs:List RV} {d:DV} {enc:R->DV} (hm:some r0=some r) (hw:bk σ qs=some d) (he:d=enc r0):IO qs (enc r) .ret σ:=by
 cases hm;subst he;exact⟨σ,f0.refl σ,hw⟩
theorem iF {A B:Type} {r:A×B} {a:A} {b:B} {qs:List RV} {d' d0:DV} {enc:A×B->DV} (hm:some (a,b)=some r) (hw:bk σ qs=some d') (h0:enc (a,b)=d0) (he:d'=d0):IO qs (enc r) .ret σ:=bC hm hw (he.trans h0.symm)
theorem bR {v v0:Bool} {u:Nat} (hm:some v0=some v) (hw:s u= .d (.bool v0)):DK u v ⟨s,h⟩:=by
 cases hm;exact hw
def sO (Q:AX->St->Prop):Prop:=∀ e σ σ',f0 σ σ'->Q e σ'->Q e σ
theorem aR {Q:AX->St->Prop} (hq:sO Q):sO (Hn P y Q):=by
 intro e σ σ' hi h
 cases e with
 |normal=>exact yr hi h
 |exit i=>exact hq _ _ _ hi h
 |ret=>exact hq _ _ _ hi h
theorem cr {Q:AX->St->Prop} {b:Nat} (hq:sO Q):sO (kw b Q):=by
 intro e σ σ' hi h
 cases e with
 |normal=>exact hq _ _ _ hi h
 |exit i=>simp only[kw] at h⊢;split at h<;>rename_i hb<;>simp only[hb,Nr,MZ]<;>exact hq _ _ _ hi h
 |ret=>exact hq _ _ _ hi h
theorem bg {qs:List RV} {res:DV}:sO (IO qs res):=by
 intro e σ σ' hi h
 cases e with
 |normal=>obtain⟨σ1,h1,h2⟩:=h;exact⟨σ1,hi.trans h1,h2⟩
 |exit i=>exact h
 |ret=>obtain⟨σ1,h1,h2⟩:=h;exact⟨σ1,hi.trans h1,h2⟩
theorem nq {N n:Nat} {qs:List RV} {res:SV} {outs:List SV}:sO (DE N n qs res outs):=by
 intro e σ σ' hi h
 cases e with
 |normal=>obtain⟨σ1,h1,h2⟩:=h;exact⟨σ1,hi.trans h1,h2⟩
 |exit i=>exact h
 |ret=>obtain⟨σ1,h1,h2⟩:=h;exact⟨σ1,hi.trans h1,h2⟩
theorem eT {S R:Type} {mk:S->St} {Q:R->AX->St->Prop} {o:S⊕R} (hq:∀ r,sO (Q r)):sO (xL mk Q o):=by
 intro e σ σ' hi h
 cases o with
 |inl s'=>cases e with
  |normal=>exact hi.trans h
  |exit i=>exact h
  |ret=>exact h
 |inr r=>cases e with
  |normal=>exact h
  |exit i=>exact hq r _ _ _ hi h
  |ret=>exact hq r _ _ _ hi h
def Cw {S R:Type} (b:Nat) (mk:S->St) (Q:R->AX->St->Prop):S⊕R->AX->St->Prop
 | .inl s',.exit i,σ=>i=b/\f0 σ (mk s')
 | .inr r,.exit i,σ=>i≠b/\Q r (.exit i) σ
 | .inr r,.ret,σ=>Q r .ret σ
 |_,_,_=>False
theorem eU {S R:Type} {b:Nat} {mk:S->St} {Q:R->AX->St->Prop} {o:S⊕R} (hq:∀ r,sO (Q r)):sO (Cw b mk Q o):=by
 intro e σ σ' hi h
 cases o with
 |inl s'=>cases e with
  |normal=>exact h
  |exit i=>exact⟨h.1,hi.trans h.2⟩
  |ret=>exact h
 |inr r=>cases e with
  |normal=>exact h
  |exit i=>exact⟨h.1,hq r _ _ _ hi h.2⟩
  |ret=>exact hq r _ _ _ hi h
theorem ct {S R:Type} {b:Nat} {mk:S->St} {Q:R->AX->St->Prop} {o:S⊕R} {s':S} {M:St} (hm:some (.inl s')=some o) (hM:mk s'=M) (hi:f0 σ M):Cw b mk Q o (.exit b) σ:=by
 cases hm;subst hM;exact⟨rfl,hi⟩
theorem ew {S R:Type} {b:Nat} {mk:S->St} {Q:R->AX->St->Prop} {o:S⊕R} {m:Option R} (hm:dy m=some o) (hi:∀ r,m=some r->Q r .ret σ):Cw b mk Q o .ret σ:=by
 cases m with
 |none=>cases hm
 |some r=>cases hm;exact hi r rfl
theorem I9 {C S R:Type} {r:R} {b:Nat} {Q:R->AX->St->Prop} (mk:C->S->St) {c:C} {s0:S} {step:S->Option (S⊕(S⊕R))} {k:S->Option R} (hm:(dD step s0).bind (dg k)=some r) (h0:f0 σ (mk c s0)) (hq:∀ r,sO (Q r))
  (hb:∀ s o,step s=some o->AW P x (xL (mk c) (Cw b (mk c) Q) o) (mk c s)) (hk:∀ s,k s=some r->Q r .normal (mk c s)):AW P (.block b (.loop x)) (Q r) σ:=by
 cases ha:dD step s0 with
 |none=>rw[ha] at hm;cases hm
 |some o=>
  rw[ha] at hm
  refine bo (zJ (fun e σ' he=> ?_) (Kw (mk c) ha h0 hb))
  cases o with
  |inl t=>
   cases e with
   |normal=>exact he.elim
   |exit i=>obtain⟨h1,h2⟩:=he;subst h1;exact nW (hq r _ _ _ h2 (hk t hm))
   |ret=>exact he.elim
  |inr r'=>
   simp only[L8,dg,L7] at hm;subst hm
   cases e with
   |normal=>exact he.elim
   |exit i=>exact Hp he.1 he.2
   |ret=>exact he
theorem I_ {C S R:Type} {r:R} {b:Nat} {X:SC} {Q:R->AX->St->Prop} (hX:X= .block b (.loop x)) (mk:C->S->St) {c:C} {mk':S->St} {s0:S} {M:St} {step:S->Option (S⊕(S⊕R))} {k:S->Option R} (hm:(dD step s0).bind (dg k)=some r) (hM:mk c s0=M) (h0:f0 σ M) (hmk:mk c=mk') (hq:∀ r,sO (Q r))
  (hb:∀ s o,step s=some o->AW P x (xL mk' (Cw b mk' Q) o) (mk' s)) (hk:∀ s,k s=some r->Q r .normal (mk' s)):AW P X (Q r) σ:=by
 subst hmk hM;rw[hX];exact I9 mk hm h0 hq hb hk
structure cA (A B:Prop):Prop where
 a:A
 b:B
structure dw {S R:Type} (P:Program) (x:SC) (Q:R->AX->St->Prop) (r:R) (b:Nat) (m:S->St) (step:S->Option (S⊕(S⊕R))) (k:S->Option R):Prop where
 hq:∀ r,sO (Q r)
 hb:∀ s o,step s=some o->AW P x (xL m (Cw b m Q) o) (m s)
 hk:∀ s,k s=some r->Q r .normal (m s)
theorem dw.of {S R:Type} {r:R} {b:Nat} {Q:R->AX->St->Prop} {m m':S->St} {step:S->Option (S⊕(S⊕R))} {k:S->Option R} (hmk:m=m') (hq:∀ r,sO (Q r))
  (hb:∀ s o,step s=some o->AW P x (xL m' (Cw b m' Q) o) (m' s)) (hk:∀ s,k s=some r->Q r .normal (m' s)):dw P x Q r b m step k:=by
 subst hmk;exact⟨hq,hb,hk⟩
theorem aH {C S R:Type} {r:R} {b:Nat} {X:SC} {Q:R->AX->St->Prop} (hX:X= .block b (.loop x)) (mk:C->S->St) {c:C} {s0:S} {M:St} {step:S->Option (S⊕(S⊕R))} {k:S->Option R} (hm:(dD step s0).bind (dg k)=some r) (hM:mk c s0=M)
  (h:cA (f0 σ M) (dw P x Q r b (mk c) step k)):AW P X (Q r) σ:=I_ hX mk hm hM h.a rfl h.b.hq h.b.hb h.b.hk
theorem Kx {C S R:Type} {r:R} {Q:R->AX->St->Prop} (mk:C->S->St) {c:C} {a:Option (S⊕R)} {k:S->Option R} (hm:a.bind (dg k)=some r) (h1:∀ o,a=some o->AW P x (xL (mk c) Q o) σ) (hq:∀ r,sO (Q r)) (hk:∀ s,k s=some r->Q r .normal (mk c s)):AW P x (Q r) σ:=by
 cases ha:a with
 |none=>rw[ha] at hm;cases hm
 |some o=>
  rw[ha] at hm
  refine zJ (fun e σ' he=> ?_) (h1 o ha)
  cases o with
  |inl t=>
   cases e with
   |normal=>exact hq r _ _ _ he (hk t hm)
   |exit i=>exact he.elim
   |ret=>exact he.elim
  |inr r'=>
   simp only[L8,dg,L7] at hm;subst hm
   cases e with
   |normal=>exact he.elim
   |exit i=>exact he
   |ret=>exact he
theorem Li {A R:Type} {r:R} {a:Option A} {k:A->Option R} {enc:A->DV} {dst f:Nat} {args:List SX} {as:List DV} (hm:a.bind k=some r) (ha:SV.toDVs (args.map (ev s))=some as) (hs:∀ x,a=some x->aa P f as (enc x)) (hk:∀ x,k x=some r->ba P K sos ⟨ay s dst (.d (enc x)),h⟩):ba P K (.c dst (.f f) args::sos) ⟨s,h⟩:=by
 cases hx:a with
 |none=>rw[hx] at hm;cases hm
 |some x=>rw[hx] at hm;exact L4 ha (hs x hx) (hk x hm)
theorem ee {A R:Type} {r:R} {a:Option A} {k:A->Option R} {enc:A->DV} {dst f:Nat} {args:List SX} {as0 as:List DV} (hm:a.bind k=some r) (ha:SV.toDVs (args.map (ev s))=some as0) (hs:∀ x,a=some x->aa P f as (enc x)) (he:as0=as) (hk:∀ x,k x=some r->ba P K sos ⟨ay s dst (.d (enc x)),h⟩):ba P K (.c dst (.f f) args::sos) ⟨s,h⟩:=by
 subst he;exact Li hm ha hs hk
theorem Lj {A R:Type} {r:R} {a:Option A} {k:A->Option R} {enc:A->DV} {dst f:Nat} {args:List SX} {as:List DV} (hm:a.bind k=some r) (ha:SV.lends h (args.map (ev s))=some as) (hs:∀ x,a=some x->aa P f as (enc x)) (hf:∀ x,(enc x).flat=true) (hk:∀ x,k x=some r->ba P K sos ⟨ay s dst (.d (enc x)),h⟩):ba P K (.c dst (.f f) args::sos) ⟨s,h⟩:=by
 cases hx:a with
 |none=>rw[hx] at hm;cases hm
 |some x=>rw[hx] at hm;exact LN ha (hs x hx) (hf x) (hk x hm)
theorem HZ {A R:Type} {r:R} {a:Option A} {k:A->Option R} {enc:A->DV} {dst t f:Nat} {args:List SX} {as caps:List DV} (hm:a.bind k=some r) (hf:s t= .d (.fn f caps)) (ha:SV.toDVs (args.map (ev s))=some as) (hs:∀ x,a=some x->aa P f (as++caps) (enc x)) (hk:∀ x,k x=some r->ba P K sos ⟨ay s dst (.d (enc x)),h⟩):ba P K (.c dst (.t t) args::sos) ⟨s,h⟩:=by
 cases hx:a with
 |none=>rw[hx] at hm;cases hm
 |some x=>rw[hx] at hm;exact LM hf ha (hs x hx) (hk x hm)
theorem cF {dst:Nat} {op:sM} (hw:ba P K (.r dst op::sos) ⟨s,h⟩):ba P K (.o dst op::sos) ⟨s,h⟩:=by
 simp only[ba,AO] at hw⊢
 split at hw
 ·rename_i p v hr;exact⟨⟨s,h⟩,f0.refl _,p,v,hr,hw.1,hw.2⟩
 ·exact hw.elim
theorem Ja {α:Type} {l:List α} {row:α->List DV} {sz:Nat} {n:Int} {e:α} {x i:SX} {k:IntKind} (hx:ev s x= .d (.slice (l.map row))) (hi:ev s i= .d (.int k n)) (hsz:∀ e,(row e).length=sz) (he:b_ l n=some e):
  rd h s (.idx sz x i)=some (0<=n/\(row e).length=sz,.d (.ptr (row e)))/\0<=n/\(row e).length=sz:=by
 unfold b_ at he
 split at he
 ·rename_i h0
  refine⟨?_,h0,hsz e⟩
  simp only[rd,hi,hx,MH,he,MS]
 ·cases he
theorem cu {R α:Type} {r:R} {l:List α} {row:α->List DV} {sz:Nat} {n:Int} {x i:SX} {k:IntKind} {dst:Nat} {kk:α->Option R} (hm:(b_ l n).bind kk=some r) (hx:ev s x= .d (.slice (l.map row))) (hi:ev s i= .d (.int k n)) (hsz:∀ e,(row e).length=sz)
  (hk:∀ e,kk e=some r->ba P K sos ⟨ay s dst (.d (.ptr (row e))),h⟩):ba P K (.r dst (.idx sz x i)::sos) ⟨s,h⟩:=by
 cases he:b_ l n with
 |none=>rw[he] at hm;cases hm
 |some e=>
  rw[he] at hm
  obtain⟨h1,h2⟩:=Ja (h:=h) hx hi hsz he
  exact iE h1 h2 (hk e hm)
theorem nN {R:Type} {r:R} {l:List UInt8} {n:Int} {x i:SX} {k:IntKind} {dst:Nat} {kk:UInt8->Option R} (hm:(b_ l n).bind kk=some r) (hx:ev s x= .d (.str l)) (hi:ev s i= .d (.int k n))
  (hk:∀ e,kk e=some r->ba P K sos ⟨ay s dst (.d (.int .u8 (e.toNat:Int))),h⟩):ba P K (.r dst (.sidx x i)::sos) ⟨s,h⟩:=by
 cases he:b_ l n with
 |none=>rw[he] at hm;cases hm
 |some e=>
  rw[he] at hm
  unfold b_ at he
  split at he
  ·rename_i h0
   refine iE (p:=0<=n) (v:= .d (.int .u8 e.toNat)) ?_ h0 (hk e hm)
   simp only[rd,hi,hx,he]
  ·cases he
theorem Cy {R α:Type} {r:R} {l:List α} {row:α->List DV} {sz:Nat} {lo hi:Option Int} {x:SX} {i j:Option SX} {dst:Nat} {kk:List α->Option R} (hm:(eu l (lo.getD 0) (hi.getD l.length)).bind kk=some r) (hx:ev s x= .d (.slice (l.map row))) (hl:CR s i=some lo) (hh:CR s j=some hi) (hsz:∀ e,(row e).length=sz)
  (hk:∀ e,kk e=some r->ba P K sos ⟨ay s dst (.d (.slice (e.map row))),h⟩):ba P K (.r dst (.slc sz x i j)::sos) ⟨s,h⟩:=by
 cases he:eu l (lo.getD 0) (hi.getD l.length) with
 |none=>rw[he] at hm;cases hm
 |some e=>
  rw[he] at hm
  unfold eu at he
  split at he
  ·rename_i h0
   simp only[L7] at he
   refine iE (p:=(∀ r∈l.map row,r.length=sz)/\0<=lo.getD 0/\lo.getD 0<=hi.getD (l.map row).length/\hi.getD (l.map row).length<=(l.map row).length) (v:= .d (.slice (e.map row))) ?_ ⟨fun q hq=>by obtain⟨z,_,rfl⟩:=MT.1 hq;exact hsz z,by simpa using h0⟩ (hk e hm)
   simp only[rd,hx,hl,hh,<-he,List.map_drop,List.map_take,M6]
  ·cases he
theorem Ft {R:Type} {r:R} {l:List UInt8} {lo hi:Option Int} {x:SX} {i j:Option SX} {dst:Nat} {kk:List UInt8->Option R} (hm:(eu l (lo.getD 0) (hi.getD l.length)).bind kk=some r) (hx:ev s x= .d (.str l)) (hl:CR s i=some lo) (hh:CR s j=some hi)
  (hk:∀ e,kk e=some r->ba P K sos ⟨ay s dst (.d (.str e)),h⟩):ba P K (.r dst (.sslc x i j)::sos) ⟨s,h⟩:=by
 cases he:eu l (lo.getD 0) (hi.getD l.length) with
 |none=>rw[he] at hm;cases hm
 |some e=>
  rw[he] at hm
  unfold eu at he
  split at he
  ·rename_i h0
   simp only[L7] at he
   refine iE (p:=0<=lo.getD 0/\lo.getD 0<=hi.getD l.length/\hi.getD l.length<=l.length) (v:= .d (.str e)) ?_ h0 (hk e hm)
   simp only[rd,hx,hl,hh,<-he]
  ·cases he
theorem Cz {R:Type} {r:R} {a b:List UInt8} {x y:SX} {dst:Nat} {kk:Option R} (hm:lS (Gw (a.length+b.length)) kk=some r) (hx:ev s x= .d (.str a)) (hy:ev s y= .d (.str b))
  (hk:kk=some r->ba P K sos ⟨ay s dst (.d (.str (a++b))),h⟩):ba P K (.r dst (.bin .add x y)::sos) ⟨s,h⟩:=by
 cases he:Gw (a.length+b.length) with
 |none=>rw[he] at hm;cases hm
 |some u=>
  rw[he] at hm
  exact iE (by simp only[rd,hx,hy,yK,E5]) (Gx.1 he) (hk hm)
theorem Fu {R α:Type} {r:R} {l:List α} {row:α->List DV} {sz e id:Nat} {n:Int} {x i:SX} {k:IntKind} {dst:Nat} {kk:α->Option R} (hm:(b_ l n).bind kk=some r) (hx:ev s x= .vec id) (hh:h id= .vec e sz (cm row l)) (hi:ev s i= .d (.int k n))
  (hk:∀ a,kk a=some r->ba P K sos ⟨ay s dst (.vref id sz n.toNat 0),h⟩):ba P K (.r dst (.idx sz x i)::sos) ⟨s,h⟩:=by
 cases he:b_ l n with
 |none=>rw[he] at hm;cases hm
 |some a=>
  rw[he] at hm
  unfold b_ at he
  split at he
  ·rename_i h0
   obtain⟨hlt,_⟩:=Md.1 he
   refine iE (p:=0<=n/\n<(cm row l).length/\sz=sz) (v:= .vref id sz n.toNat 0) ?_ ⟨h0,by simp only[cm,M6];omega,rfl⟩ (hk a hm)
   simp only[rd,hi,hx,hh]
  ·cases he
theorem Fv {R α:Type} {r:R} {l:List α} {row:α->List DV} {sz e id i off:Nat} {x:SX} {dst:Nat} {c:α->DV} {kk:α->Option R} (hm:(l[i]?).bind kk=some r) (hx:ev s x= .vref id sz i off) (hh:h id= .vec e sz (cm row l)) (hc:∀ a,(row a)[off]?=some (c a))
  (hk:∀ a,kk a=some r->ba P K sos ⟨ay s dst (.d (c a)),h⟩):ba P K (.r dst (.ld1 x)::sos) ⟨s,h⟩:=by
 cases he:l[i]? with
 |none=>rw[he] at hm;cases hm
 |some a=>
  rw[he] at hm
  refine iE (p:=sz=sz) (v:= .d (c a)) ?_ rfl (hk a hm)
  simp only[rd,hx,hh,cm,MH,he,MS,dR,hc a,SV.noOwn,Nr]
end
def sP (x y:SV):Prop:=x=y\/∃ d,x.toDV=some d/\y= .d d
def BF (σ:St):List (Nat×SV)->Prop
 |[]=>True
 |(i,v)::l=>sP (σ.s i) v/\BF σ l
theorem aT {σ:St}:BF σ []:=trivial
theorem aJ {s:Nat->SV} {h:Nat->Ch} {i:Nat} {v:SV} {l:List (Nat×SV)} (h1:sP (s i) v) (h2:BF ⟨s,h⟩ l):BF ⟨s,h⟩ ((i,v)::l):=⟨h1,h2⟩
theorem Fw {x:SV} {d:DV} (h:x.toDV=some d):sP x (.d d):= .inr ⟨d,h,rfl⟩
theorem aZ {x x' y:SV} (h1:x=x') (h2:x'=y):sP x y:= .inl (h1.trans h2)
theorem wK {w:World} {M:Nat->Prop} {κ:Nat->Value} {x y:SV} {v:Value} (h:sP x y) (hx:af w M κ x v):af w M κ y v:=by
 rcases h with rfl|⟨d,h1,rfl⟩
 ·exact hx
 ·exact af.toDV x v d hx h1
theorem H0 {σ σ':St} (hh:σ'.h=σ.h) (hs:∀ i,sP (σ.s i) (σ'.s i)):f0 σ σ':=by
 intro c κ φ a w hr
 refine⟨κ,φ, ?_⟩
 exact{hr with
  slots:=fun i hi=>wK (hs i) (hr.slots i hi)
  ghost:=fun i v hv=>wK (hs _) (hr.ghost i v hv)
  chunks:=fun id=>by rw[hh];exact hr.chunks id}
theorem DL {σ:St}:∀ {l:List (Nat×SV)},BF σ l->∀ i,lk l i= .d .any\/sP (σ.s i) (lk l i)
 |[],_,i=> .inl rfl
 |(j,v)::l,h,i=>by
  simp only[lk]
  by_cases hij:i=j
  ·subst hij;simp only[Nr];exact .inr h.1
  ·simp only[hij,MZ];exact DL h.2 i
mutual
theorem Ad:∀ (x:SV) (d:DV),x.toDV=some d->x.noOwn=true
 | .d _,_,_=>rfl
 | .nils,_,_=>rfl
 | .lit _ _ _,_,_=>rfl
 | .agg cs,d,h=>by
  unfold SV.toDV at h
  split at h
  ·rename_i xs hx;unfold SV.noOwn;exact rR cs xs hx
  ·cases h
 | .tup cs,d,h=>by
  unfold SV.toDV at h
  split at h
  ·rename_i xs hx;unfold SV.noOwn;exact rR cs xs hx
  ·cases h
 | .ref _ _,_,_=>rfl
 | .vec _,_,_=>rfl
 | .vref _ _ _ _,_,_=>rfl
 | .mp _,_,_=>rfl
 | .clo _ _,_,_=>rfl
 | .own _ _,d,h=>by unfold SV.toDV at h;cases h
theorem rR:∀ (cs:List SV) (ds:List DV),SV.toDVs cs=some ds->SV.noOwns cs=true
 |[],_,_=>rfl
 |c::cs,ds,h=>by
  unfold SV.toDVs at h
  split at h
  ·rename_i x xs h1 h2
   unfold SV.noOwns;rw[Ad c x h1,rR cs xs h2];rfl
  ·cases h
end
theorem Gy {w:World} {M:Nat->Prop} {κ:Nat->Value} {x y:SV} {v:Value} {F:List Nat} (h:sP x y) (hx:aQ w M κ x v F):aQ w M κ y v F:=by
 rcases h with rfl|⟨d,h1,rfl⟩
 ·exact hx
 ·obtain⟨h2,rfl⟩:=aQ.to_S x v F (Ad x d h1) hx
  unfold aQ;exact⟨rfl,af.toDV x v d h2 h1⟩
def LK (x y:SV):Prop:=sP x y\/(x= .nils/\∃ e ms,y= .own (.sl e ms) (.slice []))
theorem H1 {w:World} {M:Nat->Prop} {κ:Nat->Value} {x y:SV} {v:Value} {F:List Nat} (h:LK x y) (hx:aQ w M κ x v F):aQ w M κ y v F:=by
 rcases h with h|⟨rfl,e,ms,rfl⟩
 ·exact Gy h hx
 ·simp only[aQ,af] at hx
  obtain⟨rfl,rfl⟩:=hx
  unfold aQ fA
  exact⟨[],[],[],rfl,World.ownsRow_nil _ _ _ _,by simp,by simp,⟨rfl,rfl⟩,rfl⟩
inductive aN:List SV->List SV->Prop
 |nil:aN [] []
 |cons {x y:SV} {xs ys:List SV} (h:LK x y) (hs:aN xs ys):aN (x::xs) (y::ys)
theorem aN.consS {x y:SV} {xs ys:List SV} (h:sP x y) (hs:aN xs ys):aN (x::xs) (y::ys):= .cons (.inl h) hs
theorem aN.rfl:∀ {l:List SV},aN l l
 |[]=> .nil
 |_::_=> .consS (.inl _root_.rfl) aN.rfl
theorem aN.append {a b c d:List SV} (h:aN a b) (k:aN c d):aN (a++c) (b++d):=by
 induction h with
 |nil=>exact k
 |cons h _ ih=>exact .cons h ih
theorem aN.length {a b:List SV} (h:aN a b):b.length=a.length:=by
 induction h with
 |nil=>exact _root_.rfl
 |cons _ _ ih=>simp[ih]
theorem yF {w:World} {M:Nat->Prop} {κ:Nat->Value} {xs ys:List SV} (h:aN xs ys):∀ {vs:List Value} {F:List Nat},ao w M κ xs vs F->ao w M κ ys vs F:=by
 induction h with
 |nil=>intro vs F h;exact h
 |cons h _ ih=>
  intro vs F hr
  unfold ao at hr⊢
  obtain⟨u,us,F1,F2,h1,h2,h3,h4⟩:=hr
  exact⟨u,us,F1,F2,h1,h2,H1 h h3,ih h4⟩
inductive lq:List (List SV)->List (List SV)->Prop
 |nil:lq [] []
 |cons {x y:List SV} {xs ys:List (List SV)} (h:aN x y) (hs:lq xs ys):lq (x::xs) (y::ys)
theorem lq.rfl:∀ {l:List (List SV)},lq l l
 |[]=> .nil
 |_::_=> .cons aN.rfl lq.rfl
theorem lq.flat {a b:List (List SV)} (h:lq a b):aN a.flatten b.flatten/\b.length=a.length/\∀ sz,(∀ r∈a,r.length=sz)->∀ r∈b,r.length=sz:=by
 induction h with
 |nil=>exact⟨.nil,_root_.rfl,fun _ h=>h⟩
 |cons h _ ih=>
  obtain⟨h1,h2,h3⟩:=ih
  refine⟨by simp only[MJ];exact h.append h1,by simp[h2],fun sz hs r hr=> ?_⟩
  rcases Ml.1 hr with rfl|hr
  ·rw[h.length];exact hs _ oS
  ·exact h3 sz (fun r hr=>hs r (by simp[hr])) r hr
def xM:Ch->Ch->Prop
 | .vec e sz rows,c=>∃ rows',c= .vec e sz rows'/\lq rows rows'
 | .box cs,c=>∃ cs',c= .box cs'/\aN cs cs'
 |a,b=>a=b
theorem cT:∀ {a b:Ch},a=b->xM a b
 | .vec _ _ _,_,h=>⟨_,h.symm,lq.rfl⟩
 | .box _,_,h=>⟨_,h.symm,aN.rfl⟩
 | .dead,_,h=>h
 | .map _ _,_,h=>h
 | .bld _ _ _,_,h=>h
theorem iG {a a' b:Ch} (h1:a=a') (h2:xM a' b):xM a b:=h1▸h2
theorem ri {e sz:Nat} {a b:List (List SV)} (h:lq a b):xM (.vec e sz a) (.vec e sz b):=⟨b,rfl,h⟩
theorem DM {a b:List SV} (h:aN a b):xM (.box a) (.box b):=⟨b,rfl,h⟩
theorem H2 {w:World} {M:Nat->Prop} {κ:Nat->Value} {id:Nat} {F:List Nat}:∀ {a b:Ch},xM a b->j7 w M κ id a F->j7 w M κ id b F
 | .vec e sz rows,b,h,hr=>by
  obtain⟨rows',rfl,h⟩:=h
  obtain⟨h1,h2,h3⟩:=h.flat
  obtain⟨xs,G,k1,k2,k3,k4,k5⟩:=hr
  exact⟨xs,G,by rw[h2];exact k1,k2,h3 _ k3,yF h1 k4,k5⟩
 | .box cs,b,h,hr=>by
  obtain⟨cs',rfl,h⟩:=h
  obtain⟨b,T,vs,G,k1,k2,k3,k4,k5⟩:=hr
  exact⟨b,T,vs,G,k1,k2,k3,yF h k4,k5⟩
 | .dead,b,h,hr=>by cases h;exact hr
 | .map _ _,b,h,hr=>by cases h;exact hr
 | .bld _ _ _,b,h,hr=>by cases h;exact hr
def BG (σ:St):List (Nat×Ch)->Prop
 |[]=>True
 |(i,v)::l=>xM (σ.h i) v/\BG σ l
theorem aU {σ:St}:BG σ []:=trivial
theorem c7 {s:Nat->SV} {h:Nat->Ch} {i:Nat} {v:Ch} {l:List (Nat×Ch)} (h1:xM (h i) v) (h2:BG ⟨s,h⟩ l):BG ⟨s,h⟩ ((i,v)::l):=⟨h1,h2⟩
theorem CA {σ σ':St} (hs:∀ i,sP (σ.s i) (σ'.s i)) (hh:∀ i,xM (σ.h i) (σ'.h i)):f0 σ σ':=by
 intro c κ φ a w hr
 refine⟨κ,φ, ?_⟩
 exact{hr with
  slots:=fun i hi=>wK (hs i) (hr.slots i hi)
  ghost:=fun i v hv=>wK (hs _) (hr.ghost i v hv)
  chunks:=fun id=>H2 (hh id) (hr.chunks id)}
open Classical in
theorem bI {σ:St} {l:List (Nat×SV)} {hl:List (Nat×Ch)} (hs:BF σ l) (hh:BG σ hl):f0 σ (st l hl):=by
 have hk:∀ {hl:List (Nat×Ch)},BG σ hl->∀ i,lh hl i= .dead\/xM (σ.h i) (lh hl i):=by
  intro hl
  induction hl with
  |nil=>intro _ i;exact .inl rfl
  |cons p hl ih=>
   obtain⟨j,v⟩:=p
   intro hk i
   simp only[lh]
   by_cases hij:i=j
   ·subst hij;simp only[Nr];exact .inr hk.1
   ·simp only[hij,MZ];exact ih hk.2 i
 have h1:f0 σ ⟨fun i=>if lk l i= .d .any then σ.s i else lk l i,fun i=>if lh hl i= .dead then σ.h i else lh hl i⟩:=CA (fun i=>by
  by_cases hi:lk l i= .d .any
  ·simp only[hi,Nr];exact .inl rfl
  ·simp only[hi,MZ]
   rcases DL hs i with h|h
   ·exact absurd h hi
   ·exact h) (fun i=>by
  by_cases hi:lh hl i= .dead
  ·simp only[hi,Nr];exact cT rfl
  ·simp only[hi,MZ]
   rcases hk hh i with h|h
   ·exact absurd h hi
   ·exact h)
 refine h1.trans (zX (fun i=> ?_) (fun i=> ?_))
 ·by_cases hi:lk l i= .d .any
  ·exact .inr hi
  ·refine .inl ?_;simp only[hi,MZ]
 ·by_cases hi:lh hl i= .dead
  ·exact .inr hi
  ·refine .inl ?_;simp only[hi,MZ]
section
variable {α:Type} {row:α->List DV}
theorem dh {l l':List (List DV)} (h:l=l'):DV.slice l=DV.slice l':=by rw[h]
theorem di:([]:List (List DV))=([]:List α).map row:=rfl
theorem gi {r:List DV} {rs:List (List DV)} {a:α} {l:List α} (h1:r=row a) (h2:rs=l.map row):r::rs=(a::l).map row:=by rw[h1,h2];rfl
theorem rj (id:Nat) (dv:DV) (l:List α):qe id dv (cm row l)=cm row l:=Cf id dv _
theorem Gz (l:List α):SV.frzR (cm row l)=some (l.map row):=Cg _
theorem tv (l:List α):(cm row l).length=l.length:=by simp[cm]
theorem vn {a b:List DV} (h:a=b):DV.tup a=DV.tup b:=by rw[h]
theorem na {a b:List DV} (h:a=b):DV.agg a=DV.agg b:=by rw[h]
theorem Lk {a b:List DV} (h:a=b):DV.ptr a=DV.ptr b:=by rw[h]
theorem LT {f:FuncId} {a b:List DV} (h:a=b):DV.fn f a=DV.fn f b:=by rw[h]
theorem dm {a b:DV} {l l':List DV} (h:a=b) (k:l=l'):a::l=b::l':=by rw[h,k]
theorem EN (n:Int) (h:0<=n/\n<256):DV.int .u8 n=DV.int .u8 ((UInt8.ofNat n.toNat).toNat:Int):=by
 rw[UInt8.toNat_ofNat_of_lt' (by show n.toNat<256;omega)]
 congr 1;omega
theorem BH:lq [] (cm row ([]:List α)):= .nil
theorem DN {l:List α}:lq (cm row l) (cm row l):=lq.rfl
end
section
variable {P:Program} {s:Nat->SV} {h:Nat->Ch} {K:St->Prop} {sos:List SO} {α:Type} {row:α->List DV}
theorem Ae {sz:Nat} (hsz:∀ e,(row e).length=sz) (l:List α):∀ r∈cm row l,r.length=sz:=by
 intro r hr
 simp only[cm,NV,MT,Function.comp] at hr
 obtain⟨a,_,rfl⟩:=hr
 simp[dR,hsz]
theorem yG (l l':List α):cm row l++cm row l'=cm row (l++l'):=by simp[cm]
theorem BI {n:Nat} {v:SV} (hv:sP (s n) v):f0 ⟨s,h⟩ ⟨ay s n v,h⟩:=H0 rfl fun i=>by
 by_cases hi:i=n
 ·subst hi;simp only[ay,Nr];exact hv
 ·simp only[ay,hi,MZ];exact .inl rfl
theorem vO {R:Type} {r:R} {l l2:List α} {m n dst e sz id:Nat} {Y:SV} {d:DV} {kk:Option R} (hm:lS (sN (l.length+l2.length)) kk=some r) (hx:s m= .vec id) (hh:h id= .vec e sz (cm row l)) (hy:s n=Y) (hd:Y.toDV=some d) (he:d= .slice (l2.map row)) (hne:m≠n) (hsz:∀ a,(row a).length=sz)
  (hk:kk=some r->ba P K sos ⟨ay (eF id .any (ay s n (.d (.slice (l2.map row))))) dst (.vec id),ay (jz id .any h) id (.vec e sz (cm row (l++l2)))⟩):ba P K (.w dst (.app e sz (.t m) (.t n))::sos) ⟨s,h⟩:=by
 cases hl:sN (l.length+l2.length) with
 |none=>rw[hl] at hm;cases hm
 |some u=>
  rw[hl] at hm
  have hlen:=xK.1 hl
  refine K9 (BI (n:=n) (v:= .d (.slice (l2.map row))) (by rw[hy];exact Fw (he▸hd))) (p:=e=e/\sz=sz/\(∀ r∈(l2.map row).map dR,r.length=sz)/\(cm row l).length+((l2.map row).map dR).length<=137438953472) ?_ ⟨rfl,rfl,Ae hsz l2,by simp only[tv,M6];exact hlen⟩ (hk hm)
  simp only[wr,ev,ay,hne,MZ,Nr,hx,vi,SV.toDV,hh,cf,St.swap]
  rw[show(l2.map row).map dR=cm row l2 from rfl,yG,rj]
theorem Ky {R:Type} {r:R} {l2:List α} {m n dst e sz:Nat} {Y:SV} {d:DV} {kk:Option R} (hm:lS (sN l2.length) kk=some r) (hx:s m= .nils) (hy:s n=Y) (hd:Y.toDV=some d) (he:d= .slice (l2.map row)) (hne:m≠n) (hsz:∀ a,(row a).length=sz)
  (hk:kk=some r->ba P K sos ⟨ay (eF dst .any (ay s n (.d (.slice (l2.map row))))) dst (.vec dst),ay (jz dst .any h) dst (.vec e sz (cm row l2))⟩):ba P K (.w dst (.app e sz (.t m) (.t n))::sos) ⟨s,h⟩:=by
 cases hl:sN l2.length with
 |none=>rw[hl] at hm;cases hm
 |some u=>
  rw[hl] at hm
  have hlen:=xK.1 hl
  refine K9 (BI (n:=n) (v:= .d (.slice (l2.map row))) (by rw[hy];exact Fw (he▸hd))) (p:=(∀ r∈(l2.map row).map dR,r.length=sz)/\((l2.map row).map dR).length<=137438953472) ?_ ⟨Ae hsz l2,by simp only[M6];exact hlen⟩ (hk hm)
  simp only[wr,ev,ay,hne,MZ,Nr,hx,vi,SV.toDV,cf,St.swap]
  rw[show(l2.map row).map dR=cm row l2 from rfl,rj]
theorem Kz {l:List α} {a:α} {f:α->α} {e sz id i off n:Nat} {p v:SX} {vs:List SV} (hx:ev s p= .vref id sz i off) (hh:h id= .vec e sz (cm row l)) (hv:(ev s v).cells?=some vs) (hn:(vs.length==n)=true) (hc:∀ a,splice (dR (row a)) off vs=dR (row (f a))) (hsz:∀ a,(row a).length=sz) (ho:(decide (off+n<=sz))=true) (ha:l[i]?=some a) (dst:Nat):
  ∃ q,wr ⟨s,h⟩ dst (.st n p v)=some (q,⟨s,ay h id (.vec e sz (cm row (l.set i (f a))))⟩)/\q:=by
 have hri:(cm row l)[i]?=some (dR (row a)):=by simp[cm,MH,ha]
 refine⟨sz=sz/\vs.length=n/\off+n<=(dR (row a)).length, ?_,rfl,by simpa using hn,by simpa[dR,hsz] using ho⟩
 simp only[wr,hx,hh,hv,hri,hc a]
 congr 2
 simp[cm,List.map_set]
theorem JP {R:Type} {r:R} {l:List α} {f:α->α} {cs:α->List SV} {dst e sz id i off n:Nat} {p v:SX} {vs:List SV} {kk:α->Option R} (hm:(l[i]?).bind kk=some r) (hx:ev s p= .vref id sz i off) (hh:h id= .vec e sz (cm row l)) (hv:(ev s v).cells?=some vs) (hn:(vs.length==n)=true) (hsz:∀ a,(row a).length=sz) (ho:(decide (off+n<=sz))=true) (hc0:∀ a,splice (dR (row a)) off vs=cs a) (hc1:∀ a,cs a=dR (row (f a)))
  (hk:∀ a,kk a=some r->ba P K sos ⟨s,ay h id (.vec e sz (cm row (l.set i (f a))))⟩):ba P K (.w dst (.st n p v)::sos) ⟨s,h⟩:=by
 cases ha:l[i]? with
 |none=>rw[ha] at hm;cases hm
 |some a=>
  rw[ha] at hm
  obtain⟨q,h1,h2⟩:=Kz hx hh hv hn (fun a=>(hc0 a).trans (hc1 a)) hsz ho ha dst
  exact uU h1 h2 (hk a hm)
end
attribute [push_cast] HY rh rj Gz tv xJ Gv fG AR tu M6
