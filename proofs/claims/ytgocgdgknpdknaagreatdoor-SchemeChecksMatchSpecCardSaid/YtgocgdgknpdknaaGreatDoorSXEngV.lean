/-
  My text.
-/
import Derived.Test.YtgocgdgknpdknaaGreatDoorSXEngU
namespace Go.Proofs.YtgocgdgknpdknaaGreatDoor
set_option linter.unusedSimpArgs false
set_option linter.unusedVariables false
open Go.RowKit
def xW (n:Int):List DV:=[.int .i64 n]
def Jp (b:UInt8):List DV:=[.int .u8 b.toNat]
def eK (s:List UInt8):List DV:=[.str s]
def Fz (b:Bool):List DV:=[.bool b]
def q0 {α:Type} (row:α->List DV) (l:List α):List DV:=[.slice (l.map row)]
def eg {α:Type} (row:α->List DV) (l:List α):List (List SV):=(l.map row).map dR
def qx (n:Nat):Option Unit:=if n<=137438953472 then some () else none
theorem zd {n:Nat} {u:Unit}:qx n=some u↔n<=137438953472:=by unfold qx;split<;>simp_all
def Bm (n:Nat):Option Unit:=if n<=1000000000000 then some () else none
theorem D7 {n:Nat} {u:Unit}:Bm n=some u↔n<=1000000000000:=by unfold Bm;split<;>simp_all
def jg {R:Type} (c:Option Unit) (m:Option R):Option R:=c.bind fun _=>m
def xX {S R:Type} (mk:S->St) (Q:R->AX->St->Prop):S⊕R->AX->St->Prop
 | .inl s',.normal,σ=>hY σ (mk s')
 | .inr r,.exit i,σ=>Q r (.exit i) σ
 | .inr r,.ret,σ=>Q r .ret σ
 |_,_,_=>False
def eh {T R:Type} (k:T->Option R):T⊕R->Option R
 | .inl t=>k t
 | .inr r=>some r
def dg {S R:Type} (m:Option R):Option (S⊕R):=m.map .inr
section
variable {P:Program} {x y:SC} {σ:St} {s:Nat->SV} {h:Nat->Ch} {K:St->Prop} {sos:List SO}
theorem aQ {R:Type} {r:R} {b:Bool} {m1 m2:Option R} {Q:AX->St->Prop} {t:SX} (hm:(bif b then m1 else m2)=some r) (hc:ev s t= .d (.bool b)) (hx:m1=some r->AW P x Q ⟨s,h⟩) (hy:m2=some r->AW P y Q ⟨s,h⟩):AW P (.cond t x y) Q ⟨s,h⟩:=by
 refine Gm hc (fun e=> ?_) (fun e=> ?_)
 ·subst e;exact hx hm
 ·subst e;exact hy hm
theorem H9 {S R:Type} {r:R} {Q:R->AX->St->Prop} (mk:S->St) {s0:S} {step:S->Option (S⊕R)} (hm:cR step s0=some r) (h0:hY σ (mk s0)) (hb:∀ s o,step s=some o->AW P x (xX mk Q o) (mk s)):AW P (.loop x) (Q r) σ:=by
 obtain⟨n,hn⟩:=tv.1 hm
 refine HQ (fun m σ=>∃ s,σ=mk s/\ku step m s=some r) n ⟨_,h0,s0,rfl,hn⟩ ?_
 rintro m _ ⟨s,rfl,hl⟩
 cases m with
 |zero=>simp[ku] at hl
 |succ m=>
  simp only[ku] at hl
  split at hl
  ·rename_i s' hs
   refine zL (fun e σ' he=> ?_) (hb s _ hs)
   cases e with
   |normal=>exact⟨m,mk s',by omega,he,s',rfl,hl⟩
   |exit i=>exact he.elim
   |ret=>exact he.elim
  ·rename_i r' hs
   simp only[JN] at hl;subst hl
   refine zL (fun e σ' he=> ?_) (hb s _ hs)
   cases e with
   |normal=>exact he.elim
   |exit i=>exact he
   |ret=>exact he
  ·cases hl
theorem bN {S R:Type} {mk:S->St} {Q:R->AX->St->Prop} {o:S⊕R} {s':S} {M:St} (hm:some (.inl s')=some o) (hM:mk s'=M) (hi:hY σ M):xX mk Q o .normal σ:=by
 cases hm;subst hM;exact hi
theorem bH {S R:Type} {mk:S->St} {Q:R->AX->St->Prop} {o:S⊕R} {m:Option R} {i:Nat} (hm:dg m=some o) (hi:∀ r,m=some r->Q r (.exit i) σ):xX mk Q o (.exit i) σ:=by
 cases m with
 |none=>cases hm
 |some r=>cases hm;exact hi r rfl
theorem cy {S R:Type} {mk:S->St} {Q:R->AX->St->Prop} {o:S⊕R} {m:Option R} (hm:dg m=some o) (hi:∀ r,m=some r->Q r .ret σ):xX mk Q o .ret σ:=by
 cases m with
 |none=>cases hm
 |some r=>cases hm;exact hi r rfl
theorem bF {R:Type} {r r0:R} {qs:List RV} {d:DV} {enc:R->DV} (hm:some r0=some r) (hw:a8 σ qs=some d) (he:d=enc r0):Gl qs (enc r) .ret σ:=by
 cases hm;subst he;exact⟨σ,hY.refl σ,hw⟩
theorem ge {A B:Type} {r:A×B} {a:A} {b:B} {qs:List RV} {d' d0:DV} {enc:A×B->DV} (hm:some (a,b)=some r) (hw:a8 σ qs=some d') (h0:enc (a,b)=d0) (he:d'=d0):Gl qs (enc r) .ret σ:=bF hm hw (he.trans h0.symm)
theorem bO {v v0:Bool} {u:Nat} (hm:some v0=some v) (hw:s u= .d (.bool v0)):Bl u v ⟨s,h⟩:=by
 cases hm;exact hw
def sH (Q:AX->St->Prop):Prop:=∀ e σ σ',hY σ σ'->Q e σ'->Q e σ
theorem ba {Q:AX->St->Prop} (hq:sH Q):sH (EU P y Q):=by
 intro e σ σ' hi h
 cases e with
 |normal=>exact EV hi h
 |exit i=>exact hq _ _ _ hi h
 |ret=>exact hq _ _ _ hi h
theorem dP {Q:AX->St->Prop} {b:Nat} (hq:sH Q):sH (iY b Q):=by
 intro e σ σ' hi h
 cases e with
 |normal=>exact hq _ _ _ hi h
 |exit i=>simp only[iY] at h⊢;split at h<;>rename_i hb<;>simp only[hb,K4,KG]<;>exact hq _ _ _ hi h
 |ret=>exact hq _ _ _ hi h
theorem bp {qs:List RV} {res:DV}:sH (Gl qs res):=by
 intro e σ σ' hi h
 cases e with
 |normal=>obtain⟨σ1,h1,h2⟩:=h;exact⟨σ1,hi.trans h1,h2⟩
 |exit i=>exact h
 |ret=>obtain⟨σ1,h1,h2⟩:=h;exact⟨σ1,hi.trans h1,h2⟩
theorem sw {N n:Nat} {qs:List RV} {res:SV} {outs:List SV}:sH (z1 N n qs res outs):=by
 intro e σ σ' hi h
 cases e with
 |normal=>obtain⟨σ1,h1,h2⟩:=h;exact⟨σ1,hi.trans h1,h2⟩
 |exit i=>exact h
 |ret=>obtain⟨σ1,h1,h2⟩:=h;exact⟨σ1,hi.trans h1,h2⟩
theorem ii {S R:Type} {mk:S->St} {Q:R->AX->St->Prop} {o:S⊕R} (hq:∀ r,sH (Q r)):sH (xX mk Q o):=by
 intro e σ σ' hi h
 cases o with
 |inl s'=>cases e with
  |normal=>exact hi.trans h
  |exit i=>exact h
  |ret=>exact h
 |inr r=>cases e with
  |normal=>exact h
  |exit i=>exact hq r _ _ _ hi h
  |ret=>exact hq r _ _ _ hi h
def z_ {S R:Type} (b:Nat) (mk:S->St) (Q:R->AX->St->Prop):S⊕R->AX->St->Prop
 | .inl s',.exit i,σ=>i=b/\hY σ (mk s')
 | .inr r,.exit i,σ=>i≠b/\Q r (.exit i) σ
 | .inr r,.ret,σ=>Q r .ret σ
 |_,_,_=>False
theorem ij {S R:Type} {b:Nat} {mk:S->St} {Q:R->AX->St->Prop} {o:S⊕R} (hq:∀ r,sH (Q r)):sH (z_ b mk Q o):=by
 intro e σ σ' hi h
 cases o with
 |inl s'=>cases e with
  |normal=>exact h
  |exit i=>exact⟨h.1,hi.trans h.2⟩
  |ret=>exact h
 |inr r=>cases e with
  |normal=>exact h
  |exit i=>exact⟨h.1,hq r _ _ _ hi h.2⟩
  |ret=>exact hq r _ _ _ hi h
theorem cJ {S R:Type} {b:Nat} {mk:S->St} {Q:R->AX->St->Prop} {o:S⊕R} {s':S} {M:St} (hm:some (.inl s')=some o) (hM:mk s'=M) (hi:hY σ M):z_ b mk Q o (.exit b) σ:=by
 cases hm;subst hM;exact⟨rfl,hi⟩
theorem fD {S R:Type} {b:Nat} {mk:S->St} {Q:R->AX->St->Prop} {o:S⊕R} {m:Option R} (hm:dg m=some o) (hi:∀ r,m=some r->Q r .ret σ):z_ b mk Q o .ret σ:=by
 cases m with
 |none=>cases hm
 |some r=>cases hm;exact hi r rfl
theorem GD {C S R:Type} {r:R} {b:Nat} {Q:R->AX->St->Prop} (mk:C->S->St) {c:C} {s0:S} {step:S->Option (S⊕(S⊕R))} {k:S->Option R} (hm:(cR step s0).bind (eh k)=some r) (h0:hY σ (mk c s0)) (hq:∀ r,sH (Q r))
  (hb:∀ s o,step s=some o->AW P x (xX (mk c) (z_ b (mk c) Q) o) (mk c s)) (hk:∀ s,k s=some r->Q r .normal (mk c s)):AW P (.block b (.loop x)) (Q r) σ:=by
 cases ha:cR step s0 with
 |none=>rw[ha] at hm;cases hm
 |some o=>
  rw[ha] at hm
  refine bf (zL (fun e σ' he=> ?_) (H9 (mk c) ha h0 hb))
  cases o with
  |inl t=>
   cases e with
   |normal=>exact he.elim
   |exit i=>obtain⟨h1,h2⟩:=he;subst h1;exact nk (hq r _ _ _ h2 (hk t hm))
   |ret=>exact he.elim
  |inr r'=>
   simp only[JP,eh,JN] at hm;subst hm
   cases e with
   |normal=>exact he.elim
   |exit i=>exact EW he.1 he.2
   |ret=>exact he
theorem GE {C S R:Type} {r:R} {b:Nat} {X:SC} {Q:R->AX->St->Prop} (hX:X= .block b (.loop x)) (mk:C->S->St) {c:C} {mk':S->St} {s0:S} {M:St} {step:S->Option (S⊕(S⊕R))} {k:S->Option R} (hm:(cR step s0).bind (eh k)=some r) (hM:mk c s0=M) (h0:hY σ M) (hmk:mk c=mk') (hq:∀ r,sH (Q r))
  (hb:∀ s o,step s=some o->AW P x (xX mk' (z_ b mk' Q) o) (mk' s)) (hk:∀ s,k s=some r->Q r .normal (mk' s)):AW P X (Q r) σ:=by
 subst hmk hM;rw[hX];exact GD mk hm h0 hq hb hk
structure cz (A B:Prop):Prop where
 a:A
 b:B
structure dz {S R:Type} (P:Program) (x:SC) (Q:R->AX->St->Prop) (r:R) (b:Nat) (m:S->St) (step:S->Option (S⊕(S⊕R))) (k:S->Option R):Prop where
 hq:∀ r,sH (Q r)
 hb:∀ s o,step s=some o->AW P x (xX m (z_ b m Q) o) (m s)
 hk:∀ s,k s=some r->Q r .normal (m s)
theorem dz.of {S R:Type} {r:R} {b:Nat} {Q:R->AX->St->Prop} {m m':S->St} {step:S->Option (S⊕(S⊕R))} {k:S->Option R} (hmk:m=m') (hq:∀ r,sH (Q r))
  (hb:∀ s o,step s=some o->AW P x (xX m' (z_ b m' Q) o) (m' s)) (hk:∀ s,k s=some r->Q r .normal (m' s)):dz P x Q r b m step k:=by
 subst hmk;exact⟨hq,hb,hk⟩
theorem aF {C S R:Type} {r:R} {b:Nat} {X:SC} {Q:R->AX->St->Prop} (hX:X= .block b (.loop x)) (mk:C->S->St) {c:C} {s0:S} {M:St} {step:S->Option (S⊕(S⊕R))} {k:S->Option R} (hm:(cR step s0).bind (eh k)=some r) (hM:mk c s0=M)
  (h:cz (hY σ M) (dz P x Q r b (mk c) step k)):AW P X (Q r) σ:=GE hX mk hm hM h.a rfl h.b.hq h.b.hb h.b.hk
theorem Jq {A R:Type} {r:R} {a:Option A} {k:A->Option R} {enc:A->DV} {dst f:Nat} {args:List SX} {as:List DV} (hm:a.bind k=some r) (ha:SV.toDVs (args.map (ev s))=some as) (hs:∀ x,a=some x->aa P f as (enc x)) (hk:∀ x,k x=some r->aR P K sos ⟨aI s dst (.d (enc x)),h⟩):aR P K (.c dst (.f f) args::sos) ⟨s,h⟩:=by
 cases hx:a with
 |none=>rw[hx] at hm;cases hm
 |some x=>rw[hx] at hm;exact JK ha (hs x hx) (hk x hm)
theorem dJ {A R:Type} {r:R} {a:Option A} {k:A->Option R} {enc:A->DV} {dst f:Nat} {args:List SX} {as0 as:List DV} (hm:a.bind k=some r) (ha:SV.toDVs (args.map (ev s))=some as0) (hs:∀ x,a=some x->aa P f as (enc x)) (he:as0=as) (hk:∀ x,k x=some r->aR P K sos ⟨aI s dst (.d (enc x)),h⟩):aR P K (.c dst (.f f) args::sos) ⟨s,h⟩:=by
 subst he;exact Jq hm ha hs hk
theorem Hy {A R:Type} {r:R} {a:Option A} {k:A->Option R} {enc:A->DV} {dst f:Nat} {args:List SX} {as:List DV} (hm:a.bind k=some r) (ha:SV.lends h (args.map (ev s))=some as) (hs:∀ x,a=some x->aa P f as (enc x)) (hf:∀ x,(enc x).flat=true) (hk:∀ x,k x=some r->aR P K sos ⟨aI s dst (.d (enc x)),h⟩):aR P K (.c dst (.f f) args::sos) ⟨s,h⟩:=by
 cases hx:a with
 |none=>rw[hx] at hm;cases hm
 |some x=>rw[hx] at hm;exact Jj ha (hs x hx) (hf x) (hk x hm)
theorem IV {A R:Type} {r:R} {a:Option A} {k:A->Option R} {enc:A->DV} {dst t f:Nat} {args:List SX} {as caps:List DV} (hm:a.bind k=some r) (hf:s t= .d (.fn f caps)) (ha:SV.toDVs (args.map (ev s))=some as) (hs:∀ x,a=some x->aa P f (as++caps) (enc x)) (hk:∀ x,k x=some r->aR P K sos ⟨aI s dst (.d (enc x)),h⟩):aR P K (.c dst (.t t) args::sos) ⟨s,h⟩:=by
 cases hx:a with
 |none=>rw[hx] at hm;cases hm
 |some x=>rw[hx] at hm;exact Ji hf ha (hs x hx) (hk x hm)
theorem du {dst:Nat} {op:qK} (hw:aR P K (.r dst op::sos) ⟨s,h⟩):aR P K (.o dst op::sos) ⟨s,h⟩:=by
 simp only[aR,AO] at hw⊢
 split at hw
 ·rename_i p v hr;exact⟨⟨s,h⟩,hY.refl _,p,v,hr,hw.1,hw.2⟩
 ·exact hw.elim
theorem GF {α:Type} {l:List α} {row:α->List DV} {sz:Nat} {n:Int} {e:α} {x i:SX} {k:IntKind} (hx:ev s x= .d (.slice (l.map row))) (hi:ev s i= .d (.int k n)) (hsz:∀ e,(row e).length=sz) (he:cx l n=some e):
  rd h s (.idx sz x i)=some (0<=n/\(row e).length=sz,.d (.ptr (row e)))/\0<=n/\(row e).length=sz:=by
 unfold cx at he
 split at he
 ·rename_i h0
  refine⟨?_,h0,hsz e⟩
  simp only[rd,hi,hx,Kh,he,Ku]
 ·cases he
theorem cD {R α:Type} {r:R} {l:List α} {row:α->List DV} {sz:Nat} {n:Int} {x i:SX} {k:IntKind} {dst:Nat} {kk:α->Option R} (hm:(cx l n).bind kk=some r) (hx:ev s x= .d (.slice (l.map row))) (hi:ev s i= .d (.int k n)) (hsz:∀ e,(row e).length=sz)
  (hk:∀ e,kk e=some r->aR P K sos ⟨aI s dst (.d (.ptr (row e))),h⟩):aR P K (.r dst (.idx sz x i)::sos) ⟨s,h⟩:=by
 cases he:cx l n with
 |none=>rw[he] at hm;cases hm
 |some e=>
  rw[he] at hm
  obtain⟨h1,h2⟩:=GF (h:=h) hx hi hsz he
  exact iN h1 h2 (hk e hm)
theorem jv {R:Type} {r:R} {l:List UInt8} {n:Int} {x i:SX} {k:IntKind} {dst:Nat} {kk:UInt8->Option R} (hm:(cx l n).bind kk=some r) (hx:ev s x= .d (.str l)) (hi:ev s i= .d (.int k n))
  (hk:∀ e,kk e=some r->aR P K sos ⟨aI s dst (.d (.int .u8 (e.toNat:Int))),h⟩):aR P K (.r dst (.sidx x i)::sos) ⟨s,h⟩:=by
 cases he:cx l n with
 |none=>rw[he] at hm;cases hm
 |some e=>
  rw[he] at hm
  unfold cx at he
  split at he
  ·rename_i h0
   refine iN (p:=0<=n) (v:= .d (.int .u8 e.toNat)) ?_ h0 (hk e hm)
   simp only[rd,hi,hx,he]
  ·cases he
theorem Aa {R α:Type} {r:R} {l:List α} {row:α->List DV} {sz:Nat} {lo hi:Option Int} {x:SX} {i j:Option SX} {dst:Nat} {kk:List α->Option R} (hm:(dy l (lo.getD 0) (hi.getD l.length)).bind kk=some r) (hx:ev s x= .d (.slice (l.map row))) (hl:Ar s i=some lo) (hh:Ar s j=some hi) (hsz:∀ e,(row e).length=sz)
  (hk:∀ e,kk e=some r->aR P K sos ⟨aI s dst (.d (.slice (e.map row))),h⟩):aR P K (.r dst (.slc sz x i j)::sos) ⟨s,h⟩:=by
 cases he:dy l (lo.getD 0) (hi.getD l.length) with
 |none=>rw[he] at hm;cases hm
 |some e=>
  rw[he] at hm
  unfold dy at he
  split at he
  ·rename_i h0
   simp only[JN] at he
   refine iN (p:=(∀ r∈l.map row,r.length=sz)/\0<=lo.getD 0/\lo.getD 0<=hi.getD (l.map row).length/\hi.getD (l.map row).length<=(l.map row).length) (v:= .d (.slice (e.map row))) ?_ ⟨fun q hq=>by obtain⟨z,_,rfl⟩:=Kw.1 hq;exact hsz z,by simpa using h0⟩ (hk e hm)
   simp only[rd,hx,hl,hh,<-he,List.map_drop,List.map_take,KC]
  ·cases he
theorem C9 {R:Type} {r:R} {l:List UInt8} {lo hi:Option Int} {x:SX} {i j:Option SX} {dst:Nat} {kk:List UInt8->Option R} (hm:(dy l (lo.getD 0) (hi.getD l.length)).bind kk=some r) (hx:ev s x= .d (.str l)) (hl:Ar s i=some lo) (hh:Ar s j=some hi)
  (hk:∀ e,kk e=some r->aR P K sos ⟨aI s dst (.d (.str e)),h⟩):aR P K (.r dst (.sslc x i j)::sos) ⟨s,h⟩:=by
 cases he:dy l (lo.getD 0) (hi.getD l.length) with
 |none=>rw[he] at hm;cases hm
 |some e=>
  rw[he] at hm
  unfold dy at he
  split at he
  ·rename_i h0
   simp only[JN] at he
   refine iN (p:=0<=lo.getD 0/\lo.getD 0<=hi.getD l.length/\hi.getD l.length<=l.length) (v:= .d (.str e)) ?_ h0 (hk e hm)
   simp only[rd,hx,hl,hh,<-he]
  ·cases he
theorem tx {R:Type} {r:R} {a b:List UInt8} {x y:SX} {dst:Nat} {kk:Option R} (hm:jg (Bm (a.length+b.length)) kk=some r) (hx:ev s x= .d (.str a)) (hy:ev s y= .d (.str b))
  (hk:kk=some r->aR P K sos ⟨aI s dst (.d (.str (a++b))),h⟩):aR P K (.r dst (.bin .add x y)::sos) ⟨s,h⟩:=by
 cases he:Bm (a.length+b.length) with
 |none=>rw[he] at hm;cases hm
 |some u=>
  rw[he] at hm
  exact iN (by simp only[rd,hx,hy,wo,CO]) (D7.1 he) (hk hm)
theorem GG {R α:Type} {r:R} {l:List α} {row:α->List DV} {sz e id:Nat} {n:Int} {x i:SX} {k:IntKind} {dst:Nat} {kk:α->Option R} (hm:(cx l n).bind kk=some r) (hx:ev s x= .vec id) (hh:h id= .vec e sz (eg row l)) (hi:ev s i= .d (.int k n))
  (hk:∀ a,kk a=some r->aR P K sos ⟨aI s dst (.vref id sz n.toNat 0),h⟩):aR P K (.r dst (.idx sz x i)::sos) ⟨s,h⟩:=by
 cases he:cx l n with
 |none=>rw[he] at hm;cases hm
 |some a=>
  rw[he] at hm
  unfold cx at he
  split at he
  ·rename_i h0
   obtain⟨hlt,_⟩:=JY.1 he
   refine iN (p:=0<=n/\n<(eg row l).length/\sz=sz) (v:= .vref id sz n.toNat 0) ?_ ⟨h0,by simp only[eg,KC];omega,rfl⟩ (hk a hm)
   simp only[rd,hi,hx,hh]
  ·cases he
theorem GH {R α:Type} {r:R} {l:List α} {row:α->List DV} {sz e id i off:Nat} {x:SX} {dst:Nat} {c:α->DV} {kk:α->Option R} (hm:(l[i]?).bind kk=some r) (hx:ev s x= .vref id sz i off) (hh:h id= .vec e sz (eg row l)) (hc:∀ a,(row a)[off]?=some (c a))
  (hk:∀ a,kk a=some r->aR P K sos ⟨aI s dst (.d (c a)),h⟩):aR P K (.r dst (.ld1 x)::sos) ⟨s,h⟩:=by
 cases he:l[i]? with
 |none=>rw[he] at hm;cases hm
 |some a=>
  rw[he] at hm
  refine iN (p:=sz=sz) (v:= .d (c a)) ?_ rfl (hk a hm)
  simp only[rd,hx,hh,eg,Kh,he,Ku,dR,hc a,SV.noOwn,K4]
end
def qy (x y:SV):Prop:=x=y\/∃ d,x.toDV=some d/\y= .d d
def ze (σ:St):List (Nat×SV)->Prop
 |[]=>True
 |(i,v)::l=>qy (σ.s i) v/\ze σ l
theorem aS {σ:St}:ze σ []:=trivial
theorem aL {s:Nat->SV} {h:Nat->Ch} {i:Nat} {v:SV} {l:List (Nat×SV)} (h1:qy (s i) v) (h2:ze ⟨s,h⟩ l):ze ⟨s,h⟩ ((i,v)::l):=⟨h1,h2⟩
theorem C_ {x:SV} {d:DV} (h:x.toDV=some d):qy x (.d d):= .inr ⟨d,h,rfl⟩
theorem a_ {x x' y:SV} (h1:x=x') (h2:x'=y):qy x y:= .inl (h1.trans h2)
theorem ui {w:World} {M:Nat->Prop} {κ:Nat->Value} {x y:SV} {v:Value} (h:qy x y) (hx:ae w M κ x v):ae w M κ y v:=by
 rcases h with rfl|⟨d,h1,rfl⟩
 ·exact hx
 ·exact ae.toDV x v d hx h1
theorem FA {σ σ':St} (hh:σ'.h=σ.h) (hs:∀ i,qy (σ.s i) (σ'.s i)):hY σ σ':=by
 intro c κ φ a w hr
 refine⟨κ,φ, ?_⟩
 exact{hr with
  slots:=fun i hi=>ui (hs i) (hr.slots i hi)
  ghost:=fun i v hv=>ui (hs _) (hr.ghost i v hv)
  chunks:=fun id=>by rw[hh];exact hr.chunks id}
theorem Bn {σ:St}:∀ {l:List (Nat×SV)},ze σ l->∀ i,lk l i= .d .any\/qy (σ.s i) (lk l i)
 |[],_,i=> .inl rfl
 |(j,v)::l,h,i=>by
  simp only[lk]
  by_cases hij:i=j
  ·subst hij;simp only[K4];exact .inr h.1
  ·simp only[hij,KG];exact Bn h.2 i
mutual
theorem xY:∀ (x:SV) (d:DV),x.toDV=some d->x.noOwn=true
 | .d _,_,_=>rfl
 | .nils,_,_=>rfl
 | .lit _ _ _,_,_=>rfl
 | .agg cs,d,h=>by
  unfold SV.toDV at h
  split at h
  ·rename_i xs hx;unfold SV.noOwn;exact p5 cs xs hx
  ·cases h
 | .tup cs,d,h=>by
  unfold SV.toDV at h
  split at h
  ·rename_i xs hx;unfold SV.noOwn;exact p5 cs xs hx
  ·cases h
 | .ref _ _,_,_=>rfl
 | .vec _,_,_=>rfl
 | .vref _ _ _ _,_,_=>rfl
 | .mp _,_,_=>rfl
 | .own _ _,d,h=>by unfold SV.toDV at h;cases h
theorem p5:∀ (cs:List SV) (ds:List DV),SV.toDVs cs=some ds->SV.noOwns cs=true
 |[],_,_=>rfl
 |c::cs,ds,h=>by
  unfold SV.toDVs at h
  split at h
  ·rename_i x xs h1 h2
   unfold SV.noOwns;rw[xY c x h1,p5 cs xs h2];rfl
  ·cases h
end
theorem D8 {w:World} {M:Nat->Prop} {κ:Nat->Value} {x y:SV} {v:Value} {F:List Nat} (h:qy x y) (hx:aJ w M κ x v F):aJ w M κ y v F:=by
 rcases h with rfl|⟨d,h1,rfl⟩
 ·exact hx
 ·obtain⟨h2,rfl⟩:=aJ.to_S x v F (xY x d h1) hx
  unfold aJ;exact⟨rfl,ae.toDV x v d h2 h1⟩
def JH (x y:SV):Prop:=qy x y\/(x= .nils/\∃ e ms,y= .own (.sl e ms) (.slice []))
theorem FB {w:World} {M:Nat->Prop} {κ:Nat->Value} {x y:SV} {v:Value} {F:List Nat} (h:JH x y) (hx:aJ w M κ x v F):aJ w M κ y v F:=by
 rcases h with h|⟨rfl,e,ms,rfl⟩
 ·exact D8 h hx
 ·simp only[aJ,ae] at hx
  obtain⟨rfl,rfl⟩:=hx
  unfold aJ ef
  exact⟨[],[],[],rfl,World.ownsRow_nil _ _ _ _,by simp,by simp,⟨rfl,rfl⟩,rfl⟩
inductive aU:List SV->List SV->Prop
 |nil:aU [] []
 |cons {x y:SV} {xs ys:List SV} (h:JH x y) (hs:aU xs ys):aU (x::xs) (y::ys)
theorem aU.consS {x y:SV} {xs ys:List SV} (h:qy x y) (hs:aU xs ys):aU (x::xs) (y::ys):= .cons (.inl h) hs
theorem aU.rfl:∀ {l:List SV},aU l l
 |[]=> .nil
 |_::_=> .consS (.inl _root_.rfl) aU.rfl
theorem aU.append {a b c d:List SV} (h:aU a b) (k:aU c d):aU (a++c) (b++d):=by
 induction h with
 |nil=>exact k
 |cons h _ ih=>exact .cons h ih
theorem aU.length {a b:List SV} (h:aU a b):b.length=a.length:=by
 induction h with
 |nil=>exact _root_.rfl
 |cons _ _ ih=>simp[ih]
theorem wi {w:World} {M:Nat->Prop} {κ:Nat->Value} {xs ys:List SV} (h:aU xs ys):∀ {vs:List Value} {F:List Nat},aj w M κ xs vs F->aj w M κ ys vs F:=by
 induction h with
 |nil=>intro vs F h;exact h
 |cons h _ ih=>
  intro vs F hr
  unfold aj at hr⊢
  obtain⟨u,us,F1,F2,h1,h2,h3,h4⟩:=hr
  exact⟨u,us,F1,F2,h1,h2,FB h h3,ih h4⟩
inductive mg:List (List SV)->List (List SV)->Prop
 |nil:mg [] []
 |cons {x y:List SV} {xs ys:List (List SV)} (h:aU x y) (hs:mg xs ys):mg (x::xs) (y::ys)
theorem mg.rfl:∀ {l:List (List SV)},mg l l
 |[]=> .nil
 |_::_=> .cons aU.rfl mg.rfl
theorem mg.flat {a b:List (List SV)} (h:mg a b):aU a.flatten b.flatten/\b.length=a.length/\∀ sz,(∀ r∈a,r.length=sz)->∀ r∈b,r.length=sz:=by
 induction h with
 |nil=>exact⟨.nil,_root_.rfl,fun _ h=>h⟩
 |cons h _ ih=>
  obtain⟨h1,h2,h3⟩:=ih
  refine⟨by simp only[Kv];exact h.append h1,by simp[h2],fun sz hs r hr=> ?_⟩
  rcases J2.1 hr with rfl|hr
  ·rw[h.length];exact hs _ oS
  ·exact h3 sz (fun r hr=>hs r (by simp[hr])) r hr
def ww:Ch->Ch->Prop
 | .vec e sz rows,c=>∃ rows',c= .vec e sz rows'/\mg rows rows'
 | .box cs,c=>∃ cs',c= .box cs'/\aU cs cs'
 |a,b=>a=b
theorem cK:∀ {a b:Ch},a=b->ww a b
 | .vec _ _ _,_,h=>⟨_,h.symm,mg.rfl⟩
 | .box _,_,h=>⟨_,h.symm,aU.rfl⟩
 | .dead,_,h=>h
 | .map _ _,_,h=>h
 | .bld _ _ _,_,h=>h
theorem fx {a a' b:Ch} (h1:a=a') (h2:ww a' b):ww a b:=h1▸h2
theorem uj {e sz:Nat} {a b:List (List SV)} (h:mg a b):ww (.vec e sz a) (.vec e sz b):=⟨b,rfl,h⟩
theorem FC {a b:List SV} (h:aU a b):ww (.box a) (.box b):=⟨b,rfl,h⟩
theorem FD {w:World} {M:Nat->Prop} {κ:Nat->Value} {id:Nat} {F:List Nat}:∀ {a b:Ch},ww a b->kg w M κ id a F->kg w M κ id b F
 | .vec e sz rows,b,h,hr=>by
  obtain⟨rows',rfl,h⟩:=h
  obtain⟨h1,h2,h3⟩:=h.flat
  obtain⟨xs,G,k1,k2,k3,k4,k5⟩:=hr
  exact⟨xs,G,by rw[h2];exact k1,k2,h3 _ k3,wi h1 k4,k5⟩
 | .box cs,b,h,hr=>by
  obtain⟨cs',rfl,h⟩:=h
  obtain⟨b,T,vs,G,k1,k2,k3,k4,k5⟩:=hr
  exact⟨b,T,vs,G,k1,k2,k3,wi h k4,k5⟩
 | .dead,b,h,hr=>by cases h;exact hr
 | .map _ _,b,h,hr=>by cases h;exact hr
 | .bld _ _ _,b,h,hr=>by cases h;exact hr
def zf (σ:St):List (Nat×Ch)->Prop
 |[]=>True
 |(i,v)::l=>ww (σ.h i) v/\zf σ l
theorem aT {σ:St}:zf σ []:=trivial
theorem ca {s:Nat->SV} {h:Nat->Ch} {i:Nat} {v:Ch} {l:List (Nat×Ch)} (h1:ww (h i) v) (h2:zf ⟨s,h⟩ l):zf ⟨s,h⟩ ((i,v)::l):=⟨h1,h2⟩
theorem FE {σ σ':St} (hs:∀ i,qy (σ.s i) (σ'.s i)) (hh:∀ i,ww (σ.h i) (σ'.h i)):hY σ σ':=by
 intro c κ φ a w hr
 refine⟨κ,φ, ?_⟩
 exact{hr with
  slots:=fun i hi=>ui (hs i) (hr.slots i hi)
  ghost:=fun i v hv=>ui (hs _) (hr.ghost i v hv)
  chunks:=fun id=>FD (hh id) (hr.chunks id)}
open Classical in
theorem bI {σ:St} {l:List (Nat×SV)} {hl:List (Nat×Ch)} (hs:ze σ l) (hh:zf σ hl):hY σ (st l hl):=by
 have hk:∀ {hl:List (Nat×Ch)},zf σ hl->∀ i,lh hl i= .dead\/ww (σ.h i) (lh hl i):=by
  intro hl
  induction hl with
  |nil=>intro _ i;exact .inl rfl
  |cons p hl ih=>
   obtain⟨j,v⟩:=p
   intro hk i
   simp only[lh]
   by_cases hij:i=j
   ·subst hij;simp only[K4];exact .inr hk.1
   ·simp only[hij,KG];exact ih hk.2 i
 have h1:hY σ ⟨fun i=>if lk l i= .d .any then σ.s i else lk l i,fun i=>if lh hl i= .dead then σ.h i else lh hl i⟩:=FE (fun i=>by
  by_cases hi:lk l i= .d .any
  ·simp only[hi,K4];exact .inl rfl
  ·simp only[hi,KG]
   rcases Bn hs i with h|h
   ·exact absurd h hi
   ·exact h) (fun i=>by
  by_cases hi:lh hl i= .dead
  ·simp only[hi,K4];exact cK rfl
  ·simp only[hi,KG]
   rcases hk hh i with h|h
   ·exact absurd h hi
   ·exact h)
 refine h1.trans (xL (fun i=> ?_) (fun i=> ?_))
 ·by_cases hi:lk l i= .d .any
  ·exact .inr hi
  ·refine .inl ?_;simp only[hi,KG]
 ·by_cases hi:lh hl i= .dead
  ·exact .inr hi
  ·refine .inl ?_;simp only[hi,KG]
section
variable {α:Type} {row:α->List DV}
theorem c9 {l l':List (List DV)} (h:l=l'):DV.slice l=DV.slice l':=by rw[h]
theorem dA:([]:List (List DV))=([]:List α).map row:=rfl
theorem ek {r:List DV} {rs:List (List DV)} {a:α} {l:List α} (h1:r=row a) (h2:rs=l.map row):r::rs=(a::l).map row:=by rw[h1,h2];rfl
theorem D9 {r:List SV} {rs:List (List SV)} {a:α} {l:List α} (h1:r=dR (row a)) (h2:rs=eg row l):r::rs=eg row (a::l):=by rw[h1,h2];rfl
theorem sx (id:Nat) (dv:DV) (l:List α):qO id dv (eg row l)=eg row l:=zO id dv _
theorem D_ (l:List α):SV.frzR (eg row l)=some (l.map row):=zP _
theorem wj (l:List α):(eg row l).length=l.length:=by simp[eg]
theorem wk {a b:List DV} (h:a=b):DV.tup a=DV.tup b:=by rw[h]
theorem oq {a b:List DV} (h:a=b):DV.agg a=DV.agg b:=by rw[h]
theorem dB {a b:DV} {l l':List DV} (h:a=b) (k:l=l'):a::l=b::l':=by rw[h,k]
theorem Ct (n:Int) (h:0<=n/\n<256):DV.int .u8 n=DV.int .u8 ((UInt8.ofNat n.toNat).toNat:Int):=by
 rw[UInt8.toNat_ofNat_of_lt' (by show n.toNat<256;omega)]
 congr 1;omega
theorem Da:mg [] (eg row ([]:List α)):= .nil
end
section
variable {P:Program} {s:Nat->SV} {h:Nat->Ch} {K:St->Prop} {sos:List SO} {α:Type} {row:α->List DV}
theorem Bo {sz:Nat} (hsz:∀ e,(row e).length=sz) (l:List α):∀ r∈eg row l,r.length=sz:=by
 intro r hr
 simp only[eg,Ly,Kw,Function.comp] at hr
 obtain⟨a,_,rfl⟩:=hr
 simp[dR,hsz]
theorem Bp (l l':List α):eg row l++eg row l'=eg row (l++l'):=by simp[eg]
theorem zg {n:Nat} {v:SV} (hv:qy (s n) v):hY ⟨s,h⟩ ⟨aI s n v,h⟩:=FA rfl fun i=>by
 by_cases hi:i=n
 ·subst hi;simp only[aI,K4];exact hv
 ·simp only[aI,hi,KG];exact .inl rfl
theorem vh {R:Type} {r:R} {l l2:List α} {m n dst e sz id:Nat} {Y:SV} {d:DV} {kk:Option R} (hm:jg (qx (l.length+l2.length)) kk=some r) (hx:s m= .vec id) (hh:h id= .vec e sz (eg row l)) (hy:s n=Y) (hd:Y.toDV=some d) (he:d= .slice (l2.map row)) (hne:m≠n) (hsz:∀ a,(row a).length=sz)
  (hk:kk=some r->aR P K sos ⟨aI (gE id .any (aI s n (.d (.slice (l2.map row))))) dst (.vec id),aI (pU id .any h) id (.vec e sz (eg row (l++l2)))⟩):aR P K (.w dst (.app e sz (.t m) (.t n))::sos) ⟨s,h⟩:=by
 cases hl:qx (l.length+l2.length) with
 |none=>rw[hl] at hm;cases hm
 |some u=>
  rw[hl] at hm
  have hlen:=zd.1 hl
  refine IJ (zg (n:=n) (v:= .d (.slice (l2.map row))) (by rw[hy];exact C_ (he▸hd))) (p:=e=e/\sz=sz/\(∀ r∈(l2.map row).map dR,r.length=sz)/\(eg row l).length+((l2.map row).map dR).length<=137438953472) ?_ ⟨rfl,rfl,Bo hsz l2,by simp only[wj,KC];exact hlen⟩ (hk hm)
  simp only[wr,ev,aI,hne,KG,K4,hx,ub,SV.toDV,hh,bS,St.swap]
  rw[show(l2.map row).map dR=eg row l2 from rfl,Bp,sx]
theorem H_ {R:Type} {r:R} {l2:List α} {m n dst e sz:Nat} {Y:SV} {d:DV} {kk:Option R} (hm:jg (qx l2.length) kk=some r) (hx:s m= .nils) (hy:s n=Y) (hd:Y.toDV=some d) (he:d= .slice (l2.map row)) (hne:m≠n) (hsz:∀ a,(row a).length=sz)
  (hk:kk=some r->aR P K sos ⟨aI (gE dst .any (aI s n (.d (.slice (l2.map row))))) dst (.vec dst),aI (pU dst .any h) dst (.vec e sz (eg row l2))⟩):aR P K (.w dst (.app e sz (.t m) (.t n))::sos) ⟨s,h⟩:=by
 cases hl:qx l2.length with
 |none=>rw[hl] at hm;cases hm
 |some u=>
  rw[hl] at hm
  have hlen:=zd.1 hl
  refine IJ (zg (n:=n) (v:= .d (.slice (l2.map row))) (by rw[hy];exact C_ (he▸hd))) (p:=(∀ r∈(l2.map row).map dR,r.length=sz)/\((l2.map row).map dR).length<=137438953472) ?_ ⟨Bo hsz l2,by simp only[KC];exact hlen⟩ (hk hm)
  simp only[wr,ev,aI,hne,KG,K4,hx,ub,SV.toDV,bS,St.swap]
  rw[show(l2.map row).map dR=eg row l2 from rfl,sx]
theorem Ia {l:List α} {a:α} {f:α->α} {e sz id i off n:Nat} {p v:SX} {vs:List SV} (hx:ev s p= .vref id sz i off) (hh:h id= .vec e sz (eg row l)) (hv:(ev s v).cells?=some vs) (hn:(vs.length==n)=true) (hc:∀ a,splice (dR (row a)) off vs=dR (row (f a))) (hsz:∀ a,(row a).length=sz) (ho:(decide (off+n<=sz))=true) (ha:l[i]?=some a) (dst:Nat):
  ∃ q,wr ⟨s,h⟩ dst (.st n p v)=some (q,⟨s,aI h id (.vec e sz (eg row (l.set i (f a))))⟩)/\q:=by
 have hri:(eg row l)[i]?=some (dR (row a)):=by simp[eg,Kh,ha]
 refine⟨sz=sz/\vs.length=n/\off+n<=(dR (row a)).length, ?_,rfl,by simpa using hn,by simpa[dR,hsz] using ho⟩
 simp only[wr,hx,hh,hv,hri,hc a]
 congr 2
 simp[eg,List.map_set]
theorem IW {R:Type} {r:R} {l:List α} {f:α->α} {cs:α->List SV} {dst e sz id i off n:Nat} {p v:SX} {vs:List SV} {kk:α->Option R} (hm:(l[i]?).bind kk=some r) (hx:ev s p= .vref id sz i off) (hh:h id= .vec e sz (eg row l)) (hv:(ev s v).cells?=some vs) (hn:(vs.length==n)=true) (hsz:∀ a,(row a).length=sz) (ho:(decide (off+n<=sz))=true) (hc0:∀ a,splice (dR (row a)) off vs=cs a) (hc1:∀ a,cs a=dR (row (f a)))
  (hk:∀ a,kk a=some r->aR P K sos ⟨s,aI h id (.vec e sz (eg row (l.set i (f a))))⟩):aR P K (.w dst (.st n p v)::sos) ⟨s,h⟩:=by
 cases ha:l[i]? with
 |none=>rw[ha] at hm;cases hm
 |some a=>
  rw[ha] at hm
  obtain⟨q,h1,h2⟩:=Ia hx hh hv hn (fun a=>(hc0 a).trans (hc1 a)) hsz ho ha dst
  exact tQ h1 h2 (hk a hm)
end
attribute [push_cast] Fy px sx D_ wj xW Jp eK Fz q0 KC
