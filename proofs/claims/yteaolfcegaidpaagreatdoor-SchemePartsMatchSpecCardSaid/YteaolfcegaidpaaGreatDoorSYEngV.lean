/-
  My text.
-/
import Derived.Test.YteaolfcegaidpaaGreatDoorSYEngU
namespace Go.Proofs.YteaolfcegaidpaaGreatDoor
set_option linter.unusedSimpArgs false
set_option linter.unusedVariables false
open Go.RowKit
def yp (n:Int):List DV:=[.int .i64 n]
def H_ (b:UInt8):List DV:=[.int .u8 b.toNat]
def en (s:List UInt8):List DV:=[.str s]
def Fp (b:Bool):List DV:=[.bool b]
def rz {α:Type} (row:α->List DV) (l:List α):List DV:=[.slice (l.map row)]
def bF {α:Type} (row:α->List DV) (l:List α):List (List SV):=(l.map row).map dR
def tu (n:Nat):Option Unit:=if n<=137438953472 then some () else none
theorem Dm {n:Nat} {u:Unit}:tu n=some u↔n<=137438953472:=by unfold tu;split<;>simp_all
def Ia (n:Nat):Option Unit:=if n<=1000000000000 then some () else none
theorem Ib {n:Nat} {u:Unit}:Ia n=some u↔n<=1000000000000:=by unfold Ia;split<;>simp_all
def jV {R:Type} (c:Option Unit) (m:Option R):Option R:=c.bind fun _=>m
def yq {S R:Type} (mk:S->St) (Q:R->AX->St->Prop):S⊕R->AX->St->Prop
 | .inl s',.normal,σ=>dB σ (mk s')
 | .inr r,.exit i,σ=>Q r (.exit i) σ
 | .inr r,.ret,σ=>Q r .ret σ
 |_,_,_=>False
def bX {T R:Type} (k:T->Option R):T⊕R->Option R
 | .inl t=>k t
 | .inr r=>some r
def cS {S R:Type} (m:Option R):Option (S⊕R):=m.map .inr
section
variable {P:Program} {x y:SC} {σ:St} {s:Nat->SV} {h:Nat->Ch} {K:St->Prop} {sos:List SO}
theorem aO {R:Type} {r:R} {b:Bool} {m1 m2:Option R} {Q:AX->St->Prop} {t:SX} (hm:(bif b then m1 else m2)=some r) (hc:ev s t= .d (.bool b)) (hx:m1=some r->AW P x Q ⟨s,h⟩) (hy:m2=some r->AW P y Q ⟨s,h⟩):AW P (.cond t x y) Q ⟨s,h⟩:=by
 refine K6 hc (fun e=> ?_) (fun e=> ?_)
 ·subst e;exact hx hm
 ·subst e;exact hy hm
theorem MU {S R:Type} {r:R} {Q:R->AX->St->Prop} (mk:S->St) {s0:S} {step:S->Option (S⊕R)} (hm:bx step s0=some r) (h0:dB σ (mk s0)) (hb:∀ s o,step s=some o->AW P x (yq mk Q o) (mk s)):AW P (.loop x) (Q r) σ:=by
 obtain⟨n,hn⟩:=xq.1 hm
 refine Mz (fun m σ=>∃ s,σ=mk s/\nw step m s=some r) n ⟨_,h0,s0,rfl,hn⟩ ?_
 rintro m _ ⟨s,rfl,hl⟩
 cases m with
 |zero=>simp[nw] at hl
 |succ m=>
  simp only[nw] at hl
  split at hl
  ·rename_i s' hs
   refine Br (fun e σ' he=> ?_) (hb s _ hs)
   cases e with
   |normal=>exact⟨m,mk s',by omega,he,s',rfl,hl⟩
   |exit i=>exact he.elim
   |ret=>exact he.elim
  ·rename_i r' hs
   simp only[Oy] at hl;subst hl
   refine Br (fun e σ' he=> ?_) (hb s _ hs)
   cases e with
   |normal=>exact he.elim
   |exit i=>exact he
   |ret=>exact he
  ·cases hl
theorem bG {S R:Type} {mk:S->St} {Q:R->AX->St->Prop} {o:S⊕R} {s':S} {M:St} (hm:some (.inl s')=some o) (hM:mk s'=M) (hi:dB σ M):yq mk Q o .normal σ:=by
 cases hm;subst hM;exact hi
theorem bE {S R:Type} {mk:S->St} {Q:R->AX->St->Prop} {o:S⊕R} {m:Option R} {i:Nat} (hm:cS m=some o) (hi:∀ r,m=some r->Q r (.exit i) σ):yq mk Q o (.exit i) σ:=by
 cases m with
 |none=>cases hm
 |some r=>cases hm;exact hi r rfl
theorem di {S R:Type} {mk:S->St} {Q:R->AX->St->Prop} {o:S⊕R} {m:Option R} (hm:cS m=some o) (hi:∀ r,m=some r->Q r .ret σ):yq mk Q o .ret σ:=by
 cases m with
 |none=>cases hm
 |some r=>cases hm;exact hi r rfl
theorem bQ {R:Type} {r r0:R} {qs:List RV} {d:DV} {enc:R->DV} (hm:some r0=some r) (hw:bu σ qs=some d) (he:d=enc r0):K5 qs (enc r) .ret σ:=by
 cases hm;subst he;exact⟨σ,dB.refl σ,hw⟩
theorem jO {A B:Type} {r:A×B} {a:A} {b:B} {qs:List RV} {d' d0:DV} {enc:A×B->DV} (hm:some (a,b)=some r) (hw:bu σ qs=some d') (h0:enc (a,b)=d0) (he:d'=d0):K5 qs (enc r) .ret σ:=bQ hm hw (he.trans h0.symm)
theorem cJ {v v0:Bool} {u:Nat} (hm:some v0=some v) (hw:s u= .d (.bool v0)):Fo u v ⟨s,h⟩:=by
 cases hm;exact hw
def tv (Q:AX->St->Prop):Prop:=∀ e σ σ',dB σ σ'->Q e σ'->Q e σ
theorem aG {Q:AX->St->Prop} (hq:tv Q):tv (Jm P y Q):=by
 intro e σ σ' hi h
 cases e with
 |normal=>exact C6 hi h
 |exit i=>exact hq _ _ _ hi h
 |ret=>exact hq _ _ _ hi h
theorem dj {Q:AX->St->Prop} {b:Nat} (hq:tv Q):tv (lw b Q):=by
 intro e σ σ' hi h
 cases e with
 |normal=>exact hq _ _ _ hi h
 |exit i=>simp only[lw] at h⊢;split at h<;>rename_i hb<;>simp only[hb,PR,Pp]<;>exact hq _ _ _ hi h
 |ret=>exact hq _ _ _ hi h
theorem bo {qs:List RV} {res:DV}:tv (K5 qs res):=by
 intro e σ σ' hi h
 cases e with
 |normal=>obtain⟨σ1,h1,h2⟩:=h;exact⟨σ1,hi.trans h1,h2⟩
 |exit i=>exact h
 |ret=>obtain⟨σ1,h1,h2⟩:=h;exact⟨σ1,hi.trans h1,h2⟩
theorem dy {N n:Nat} {qs:List RV} {res:SV} {outs:List SV}:tv (BK N n qs res outs):=by
 intro e σ σ' hi h
 cases e with
 |normal=>obtain⟨σ1,h1,h2⟩:=h;exact⟨σ1,hi.trans h1,h2⟩
 |exit i=>exact h
 |ret=>obtain⟨σ1,h1,h2⟩:=h;exact⟨σ1,hi.trans h1,h2⟩
theorem ec {S R:Type} {mk:S->St} {Q:R->AX->St->Prop} {o:S⊕R} (hq:∀ r,tv (Q r)):tv (yq mk Q o):=by
 intro e σ σ' hi h
 cases o with
 |inl s'=>cases e with
  |normal=>exact hi.trans h
  |exit i=>exact h
  |ret=>exact h
 |inr r=>cases e with
  |normal=>exact h
  |exit i=>exact hq r _ _ _ hi h
  |ret=>exact hq r _ _ _ hi h
def Ed {S R:Type} (b:Nat) (mk:S->St) (Q:R->AX->St->Prop):S⊕R->AX->St->Prop
 | .inl s',.exit i,σ=>i=b/\dB σ (mk s')
 | .inr r,.exit i,σ=>i≠b/\Q r (.exit i) σ
 | .inr r,.ret,σ=>Q r .ret σ
 |_,_,_=>False
theorem fH {S R:Type} {b:Nat} {mk:S->St} {Q:R->AX->St->Prop} {o:S⊕R} (hq:∀ r,tv (Q r)):tv (Ed b mk Q o):=by
 intro e σ σ' hi h
 cases o with
 |inl s'=>cases e with
  |normal=>exact h
  |exit i=>exact⟨h.1,hi.trans h.2⟩
  |ret=>exact h
 |inr r=>cases e with
  |normal=>exact h
  |exit i=>exact⟨h.1,hq r _ _ _ hi h.2⟩
  |ret=>exact hq r _ _ _ hi h
theorem cZ {S R:Type} {b:Nat} {mk:S->St} {Q:R->AX->St->Prop} {o:S⊕R} {s':S} {M:St} (hm:some (.inl s')=some o) (hM:mk s'=M) (hi:dB σ M):Ed b mk Q o (.exit b) σ:=by
 cases hm;subst hM;exact⟨rfl,hi⟩
theorem gq {S R:Type} {b:Nat} {mk:S->St} {Q:R->AX->St->Prop} {o:S⊕R} {m:Option R} (hm:cS m=some o) (hi:∀ r,m=some r->Q r .ret σ):Ed b mk Q o .ret σ:=by
 cases m with
 |none=>cases hm
 |some r=>cases hm;exact hi r rfl
theorem Ll {C S R:Type} {r:R} {b:Nat} {Q:R->AX->St->Prop} (mk:C->S->St) {c:C} {s0:S} {step:S->Option (S⊕(S⊕R))} {k:S->Option R} (hm:(bx step s0).bind (bX k)=some r) (h0:dB σ (mk c s0)) (hq:∀ r,tv (Q r))
  (hb:∀ s o,step s=some o->AW P x (yq (mk c) (Ed b (mk c) Q) o) (mk c s)) (hk:∀ s,k s=some r->Q r .normal (mk c s)):AW P (.block b (.loop x)) (Q r) σ:=by
 cases ha:bx step s0 with
 |none=>rw[ha] at hm;cases hm
 |some o=>
  rw[ha] at hm
  refine bm (Br (fun e σ' he=> ?_) (MU (mk c) ha h0 hb))
  cases o with
  |inl t=>
   cases e with
   |normal=>exact he.elim
   |exit i=>obtain⟨h1,h2⟩:=he;subst h1;exact sI (hq r _ _ _ h2 (hk t hm))
   |ret=>exact he.elim
  |inr r'=>
   simp only[OA,bX,Oy] at hm;subst hm
   cases e with
   |normal=>exact he.elim
   |exit i=>exact Jo he.1 he.2
   |ret=>exact he
theorem Lm {C S R:Type} {r:R} {b:Nat} {X:SC} {Q:R->AX->St->Prop} (hX:X= .block b (.loop x)) (mk:C->S->St) {c:C} {mk':S->St} {s0:S} {M:St} {step:S->Option (S⊕(S⊕R))} {k:S->Option R} (hm:(bx step s0).bind (bX k)=some r) (hM:mk c s0=M) (h0:dB σ M) (hmk:mk c=mk') (hq:∀ r,tv (Q r))
  (hb:∀ s o,step s=some o->AW P x (yq mk' (Ed b mk' Q) o) (mk' s)) (hk:∀ s,k s=some r->Q r .normal (mk' s)):AW P X (Q r) σ:=by
 subst hmk hM;rw[hX];exact Ll mk hm h0 hq hb hk
structure cN (A B:Prop):Prop where
 a:A
 b:B
structure dC {S R:Type} (P:Program) (x:SC) (Q:R->AX->St->Prop) (r:R) (b:Nat) (m:S->St) (step:S->Option (S⊕(S⊕R))) (k:S->Option R):Prop where
 hq:∀ r,tv (Q r)
 hb:∀ s o,step s=some o->AW P x (yq m (Ed b m Q) o) (m s)
 hk:∀ s,k s=some r->Q r .normal (m s)
theorem dC.of {S R:Type} {r:R} {b:Nat} {Q:R->AX->St->Prop} {m m':S->St} {step:S->Option (S⊕(S⊕R))} {k:S->Option R} (hmk:m=m') (hq:∀ r,tv (Q r))
  (hb:∀ s o,step s=some o->AW P x (yq m' (Ed b m' Q) o) (m' s)) (hk:∀ s,k s=some r->Q r .normal (m' s)):dC P x Q r b m step k:=by
 subst hmk;exact⟨hq,hb,hk⟩
theorem az {C S R:Type} {r:R} {b:Nat} {X:SC} {Q:R->AX->St->Prop} (hX:X= .block b (.loop x)) (mk:C->S->St) {c:C} {s0:S} {M:St} {step:S->Option (S⊕(S⊕R))} {k:S->Option R} (hm:(bx step s0).bind (bX k)=some r) (hM:mk c s0=M)
  (h:cN (dB σ M) (dC P x Q r b (mk c) step k)):AW P X (Q r) σ:=Lm hX mk hm hM h.a rfl h.b.hq h.b.hb h.b.hk
theorem JW {C S R:Type} {r:R} {Q:R->AX->St->Prop} (mk:C->S->St) {c:C} {a:Option (S⊕R)} {k:S->Option R} (hm:a.bind (bX k)=some r) (h1:∀ o,a=some o->AW P x (yq (mk c) Q o) σ) (hq:∀ r,tv (Q r)) (hk:∀ s,k s=some r->Q r .normal (mk c s)):AW P x (Q r) σ:=by
 cases ha:a with
 |none=>rw[ha] at hm;cases hm
 |some o=>
  rw[ha] at hm
  refine Br (fun e σ' he=> ?_) (h1 o ha)
  cases o with
  |inl t=>
   cases e with
   |normal=>exact hq r _ _ _ he (hk t hm)
   |exit i=>exact he.elim
   |ret=>exact he.elim
  |inr r'=>
   simp only[OA,bX,Oy] at hm;subst hm
   cases e with
   |normal=>exact he.elim
   |exit i=>exact he
   |ret=>exact he
theorem MV {A R:Type} {r:R} {a:Option A} {k:A->Option R} {enc:A->DV} {dst f:Nat} {args:List SX} {as:List DV} (hm:a.bind k=some r) (ha:SV.toDVs (args.map (ev s))=some as) (hs:∀ x,a=some x->aa P f as (enc x)) (hk:∀ x,k x=some r->bh P K sos ⟨aH s dst (.d (enc x)),h⟩):bh P K (.c dst (.f f) args::sos) ⟨s,h⟩:=by
 cases hx:a with
 |none=>rw[hx] at hm;cases hm
 |some x=>rw[hx] at hm;exact Ov ha (hs x hx) (hk x hm)
theorem fg {A R:Type} {r:R} {a:Option A} {k:A->Option R} {enc:A->DV} {dst f:Nat} {args:List SX} {as0 as:List DV} (hm:a.bind k=some r) (ha:SV.toDVs (args.map (ev s))=some as0) (hs:∀ x,a=some x->aa P f as (enc x)) (he:as0=as) (hk:∀ x,k x=some r->bh P K sos ⟨aH s dst (.d (enc x)),h⟩):bh P K (.c dst (.f f) args::sos) ⟨s,h⟩:=by
 subst he;exact MV hm ha hs hk
theorem Hd {A R:Type} {r:R} {a:Option A} {k:A->Option R} {enc:A->DV} {dst t f:Nat} {args:List SX} {as caps:List DV} (hm:a.bind k=some r) (hf:s t= .d (.fn f caps)) (ha:SV.toDVs (args.map (ev s))=some as) (hs:∀ x,a=some x->aa P f (as++caps) (enc x)) (hk:∀ x,k x=some r->bh P K sos ⟨aH s dst (.d (enc x)),h⟩):bh P K (.c dst (.t t) args::sos) ⟨s,h⟩:=by
 cases hx:a with
 |none=>rw[hx] at hm;cases hm
 |some x=>rw[hx] at hm;exact Ob hf ha (hs x hx) (hk x hm)
theorem dI {dst:Nat} {op:uk} (hw:bh P K (.r dst op::sos) ⟨s,h⟩):bh P K (.o dst op::sos) ⟨s,h⟩:=by
 simp only[bh,AO] at hw⊢
 split at hw
 ·rename_i p v hr;exact⟨⟨s,h⟩,dB.refl _,p,v,hr,hw.1,hw.2⟩
 ·exact hw.elim
theorem Ln {α:Type} {l:List α} {row:α->List DV} {sz:Nat} {n:Int} {e:α} {x i:SX} {k:IntKind} (hx:ev s x= .d (.slice (l.map row))) (hi:ev s i= .d (.int k n)) (hsz:∀ e,(row e).length=sz) (he:dg l n=some e):
  rd h s (.idx sz x i)=some (0<=n/\(row e).length=sz,.d (.ptr (row e)))/\0<=n/\(row e).length=sz:=by
 unfold dg at he
 split at he
 ·rename_i h0
  refine⟨?_,h0,hsz e⟩
  simp only[rd,hi,hx,O6,he,Pf]
 ·cases he
theorem dz {R α:Type} {r:R} {l:List α} {row:α->List DV} {sz:Nat} {n:Int} {x i:SX} {k:IntKind} {dst:Nat} {kk:α->Option R} (hm:(dg l n).bind kk=some r) (hx:ev s x= .d (.slice (l.map row))) (hi:ev s i= .d (.int k n)) (hsz:∀ e,(row e).length=sz)
  (hk:∀ e,kk e=some r->bh P K sos ⟨aH s dst (.d (.ptr (row e))),h⟩):bh P K (.r dst (.idx sz x i)::sos) ⟨s,h⟩:=by
 cases he:dg l n with
 |none=>rw[he] at hm;cases hm
 |some e=>
  rw[he] at hm
  obtain⟨h1,h2⟩:=Ln (h:=h) hx hi hsz he
  exact im h1 h2 (hk e hm)
theorem nA {R:Type} {r:R} {l:List UInt8} {n:Int} {x i:SX} {k:IntKind} {dst:Nat} {kk:UInt8->Option R} (hm:(dg l n).bind kk=some r) (hx:ev s x= .d (.str l)) (hi:ev s i= .d (.int k n))
  (hk:∀ e,kk e=some r->bh P K sos ⟨aH s dst (.d (.int .u8 (e.toNat:Int))),h⟩):bh P K (.r dst (.sidx x i)::sos) ⟨s,h⟩:=by
 cases he:dg l n with
 |none=>rw[he] at hm;cases hm
 |some e=>
  rw[he] at hm
  unfold dg at he
  split at he
  ·rename_i h0
   refine im (p:=0<=n) (v:= .d (.int .u8 e.toNat)) ?_ h0 (hk e hm)
   simp only[rd,hi,hx,he]
  ·cases he
theorem Ee {R α:Type} {r:R} {l:List α} {row:α->List DV} {sz:Nat} {lo hi:Option Int} {x:SX} {i j:Option SX} {dst:Nat} {kk:List α->Option R} (hm:(fh l (lo.getD 0) (hi.getD l.length)).bind kk=some r) (hx:ev s x= .d (.slice (l.map row))) (hl:Ey s i=some lo) (hh:Ey s j=some hi) (hsz:∀ e,(row e).length=sz)
  (hk:∀ e,kk e=some r->bh P K sos ⟨aH s dst (.d (.slice (e.map row))),h⟩):bh P K (.r dst (.slc sz x i j)::sos) ⟨s,h⟩:=by
 cases he:fh l (lo.getD 0) (hi.getD l.length) with
 |none=>rw[he] at hm;cases hm
 |some e=>
  rw[he] at hm
  unfold fh at he
  split at he
  ·rename_i h0
   simp only[Oy] at he
   refine im (p:=(∀ r∈l.map row,r.length=sz)/\0<=lo.getD 0/\lo.getD 0<=hi.getD (l.map row).length/\hi.getD (l.map row).length<=(l.map row).length) (v:= .d (.slice (e.map row))) ?_ ⟨fun q hq=>by obtain⟨z,_,rfl⟩:=Pd.1 hq;exact hsz z,by simpa using h0⟩ (hk e hm)
   simp only[rd,hx,hl,hh,<-he,List.map_drop,List.map_take,Px]
  ·cases he
theorem He {R:Type} {r:R} {l:List UInt8} {lo hi:Option Int} {x:SX} {i j:Option SX} {dst:Nat} {kk:List UInt8->Option R} (hm:(fh l (lo.getD 0) (hi.getD l.length)).bind kk=some r) (hx:ev s x= .d (.str l)) (hl:Ey s i=some lo) (hh:Ey s j=some hi)
  (hk:∀ e,kk e=some r->bh P K sos ⟨aH s dst (.d (.str e)),h⟩):bh P K (.r dst (.sslc x i j)::sos) ⟨s,h⟩:=by
 cases he:fh l (lo.getD 0) (hi.getD l.length) with
 |none=>rw[he] at hm;cases hm
 |some e=>
  rw[he] at hm
  unfold fh at he
  split at he
  ·rename_i h0
   simp only[Oy] at he
   refine im (p:=0<=lo.getD 0/\lo.getD 0<=hi.getD l.length/\hi.getD l.length<=l.length) (v:= .d (.str e)) ?_ h0 (hk e hm)
   simp only[rd,hx,hl,hh,<-he]
  ·cases he
theorem JX {R:Type} {r:R} {a b:List UInt8} {x y:SX} {dst:Nat} {kk:Option R} (hm:jV (Ia (a.length+b.length)) kk=some r) (hx:ev s x= .d (.str a)) (hy:ev s y= .d (.str b))
  (hk:kk=some r->bh P K sos ⟨aH s dst (.d (.str (a++b))),h⟩):bh P K (.r dst (.bin .add x y)::sos) ⟨s,h⟩:=by
 cases he:Ia (a.length+b.length) with
 |none=>rw[he] at hm;cases hm
 |some u=>
  rw[he] at hm
  exact im (by simp only[rd,hx,hy,An,GP]) (Ib.1 he) (hk hm)
theorem AK {R α:Type} {r:R} {l:List α} {row:α->List DV} {sz e id:Nat} {n:Int} {x i:SX} {k:IntKind} {dst:Nat} {kk:α->Option R} (hm:(dg l n).bind kk=some r) (hx:ev s x= .vec id) (hh:h id= .vec e sz (bF row l)) (hi:ev s i= .d (.int k n))
  (hk:∀ a,kk a=some r->bh P K sos ⟨aH s dst (.vref id sz n.toNat 0),h⟩):bh P K (.r dst (.idx sz x i)::sos) ⟨s,h⟩:=by
 cases he:dg l n with
 |none=>rw[he] at hm;cases hm
 |some a=>
  rw[he] at hm
  unfold dg at he
  split at he
  ·rename_i h0
   obtain⟨hlt,_⟩:=OG.1 he
   refine im (p:=0<=n/\n<(bF row l).length/\sz=sz) (v:= .vref id sz n.toNat 0) ?_ ⟨h0,by simp only[bF,Px];omega,rfl⟩ (hk a hm)
   simp only[rd,hi,hx,hh]
  ·cases he
theorem Lo {R α:Type} {r:R} {l:List α} {row:α->List DV} {sz e id i off:Nat} {x:SX} {dst:Nat} {c:α->DV} {kk:α->Option R} (hm:(l[i]?).bind kk=some r) (hx:ev s x= .vref id sz i off) (hh:h id= .vec e sz (bF row l)) (hc:∀ a,(row a)[off]?=some (c a))
  (hk:∀ a,kk a=some r->bh P K sos ⟨aH s dst (.d (c a)),h⟩):bh P K (.r dst (.ld1 x)::sos) ⟨s,h⟩:=by
 cases he:l[i]? with
 |none=>rw[he] at hm;cases hm
 |some a=>
  rw[he] at hm
  refine im (p:=sz=sz) (v:= .d (c a)) ?_ rfl (hk a hm)
  simp only[rd,hx,hh,bF,O6,he,Pf,dR,hc a,SV.noOwn,PR]
end
def tw (x y:SV):Prop:=x=y\/∃ d,x.toDV=some d/\y= .d d
def Dn (σ:St):List (Nat×SV)->Prop
 |[]=>True
 |(i,v)::l=>tw (σ.s i) v/\Dn σ l
theorem aw {σ:St}:Dn σ []:=trivial
theorem ap {s:Nat->SV} {h:Nat->Ch} {i:Nat} {v:SV} {l:List (Nat×SV)} (h1:tw (s i) v) (h2:Dn ⟨s,h⟩ l):Dn ⟨s,h⟩ ((i,v)::l):=⟨h1,h2⟩
theorem Hf {x:SV} {d:DV} (h:x.toDV=some d):tw x (.d d):= .inr ⟨d,h,rfl⟩
theorem aP {x x' y:SV} (h1:x=x') (h2:x'=y):tw x y:= .inl (h1.trans h2)
theorem Lp {x x':SV} {d d':DV} (h1:x=x') (h2:x'.toDV=some d') (h3:d'=d):tw x (.d d):=by subst h1 h3;exact Hf h2
theorem yr {w:World} {M:Nat->Prop} {κ:Nat->Value} {x y:SV} {v:Value} (h:tw x y) (hx:ae w M κ x v):ae w M κ y v:=by
 rcases h with rfl|⟨d,h1,rfl⟩
 ·exact hx
 ·exact ae.toDV x v d hx h1
theorem JY {σ σ':St} (hh:σ'.h=σ.h) (hs:∀ i,tw (σ.s i) (σ'.s i)):dB σ σ':=by
 intro c κ φ a w hr
 refine⟨κ,φ, ?_⟩
 exact{hr with
  slots:=fun i hi=>yr (hs i) (hr.slots i hi)
  ghost:=fun i v hv=>yr (hs _) (hr.ghost i v hv)
  chunks:=fun id=>by rw[hh];exact hr.chunks id}
theorem Fq {σ:St}:∀ {l:List (Nat×SV)},Dn σ l->∀ i,lk l i= .d .any\/tw (σ.s i) (lk l i)
 |[],_,i=> .inl rfl
 |(j,v)::l,h,i=>by
  simp only[lk]
  by_cases hij:i=j
  ·subst hij;simp only[PR];exact .inr h.1
  ·simp only[hij,Pp];exact Fq h.2 i
mutual
theorem B0:∀ (x:SV) (d:DV),x.toDV=some d->x.noOwn=true
 | .d _,_,_=>rfl
 | .nils,_,_=>rfl
 | .lit _ _ _,_,_=>rfl
 | .agg cs,d,h=>by
  unfold SV.toDV at h
  split at h
  ·rename_i xs hx;unfold SV.noOwn;exact tx cs xs hx
  ·cases h
 | .tup cs,d,h=>by
  unfold SV.toDV at h
  split at h
  ·rename_i xs hx;unfold SV.noOwn;exact tx cs xs hx
  ·cases h
 | .ref _ _,_,_=>rfl
 | .vec _,_,_=>rfl
 | .vref _ _ _ _,_,_=>rfl
 | .mp _,_,_=>rfl
 | .clo _ _,_,_=>rfl
 | .own _ _,d,h=>by unfold SV.toDV at h;cases h
theorem tx:∀ (cs:List SV) (ds:List DV),SV.toDVs cs=some ds->SV.noOwns cs=true
 |[],_,_=>rfl
 |c::cs,ds,h=>by
  unfold SV.toDVs at h
  split at h
  ·rename_i x xs h1 h2
   unfold SV.noOwns;rw[B0 c x h1,tx cs xs h2];rfl
  ·cases h
end
theorem Ic {w:World} {M:Nat->Prop} {κ:Nat->Value} {x y:SV} {v:Value} {F:List Nat} (h:tw x y) (hx:aK w M κ x v F):aK w M κ y v F:=by
 rcases h with rfl|⟨d,h1,rfl⟩
 ·exact hx
 ·obtain⟨h2,rfl⟩:=aK.to_S x v F (B0 x d h1) hx
  unfold aK;exact⟨rfl,ae.toDV x v d h2 h1⟩
def N7 (x y:SV):Prop:=tw x y\/(x= .nils/\∃ e ms,y= .own (.sl e ms) (.slice []))
theorem JZ {w:World} {M:Nat->Prop} {κ:Nat->Value} {x y:SV} {v:Value} {F:List Nat} (h:N7 x y) (hx:aK w M κ x v F):aK w M κ y v F:=by
 rcases h with h|⟨rfl,e,ms,rfl⟩
 ·exact Ic h hx
 ·simp only[aK,ae] at hx
  obtain⟨rfl,rfl⟩:=hx
  unfold aK gl
  exact⟨[],[],[],rfl,World.ownsRow_nil _ _ _ _,by simp,by simp,⟨rfl,rfl⟩,rfl⟩
inductive ba:List SV->List SV->Prop
 |nil:ba [] []
 |cons {x y:SV} {xs ys:List SV} (h:N7 x y) (hs:ba xs ys):ba (x::xs) (y::ys)
theorem ba.consS {x y:SV} {xs ys:List SV} (h:tw x y) (hs:ba xs ys):ba (x::xs) (y::ys):= .cons (.inl h) hs
theorem ba.rfl:∀ {l:List SV},ba l l
 |[]=> .nil
 |_::_=> .consS (.inl _root_.rfl) ba.rfl
theorem ba.append {a b c d:List SV} (h:ba a b) (k:ba c d):ba (a++c) (b++d):=by
 induction h with
 |nil=>exact k
 |cons h _ ih=>exact .cons h ih
theorem ba.length {a b:List SV} (h:ba a b):b.length=a.length:=by
 induction h with
 |nil=>exact _root_.rfl
 |cons _ _ ih=>simp[ih]
theorem Aj {w:World} {M:Nat->Prop} {κ:Nat->Value} {xs ys:List SV} (h:ba xs ys):∀ {vs:List Value} {F:List Nat},am w M κ xs vs F->am w M κ ys vs F:=by
 induction h with
 |nil=>intro vs F h;exact h
 |cons h _ ih=>
  intro vs F hr
  unfold am at hr⊢
  obtain⟨u,us,F1,F2,h1,h2,h3,h4⟩:=hr
  exact⟨u,us,F1,F2,h1,h2,JZ h h3,ih h4⟩
inductive kA:List (List SV)->List (List SV)->Prop
 |nil:kA [] []
 |cons {x y:List SV} {xs ys:List (List SV)} (h:ba x y) (hs:kA xs ys):kA (x::xs) (y::ys)
theorem kA.rfl:∀ {l:List (List SV)},kA l l
 |[]=> .nil
 |_::_=> .cons ba.rfl kA.rfl
theorem kA.flat {a b:List (List SV)} (h:kA a b):ba a.flatten b.flatten/\b.length=a.length/\∀ sz,(∀ r∈a,r.length=sz)->∀ r∈b,r.length=sz:=by
 induction h with
 |nil=>exact⟨.nil,_root_.rfl,fun _ h=>h⟩
 |cons h _ ih=>
  obtain⟨h1,h2,h3⟩:=ih
  refine⟨by simp only[O_];exact h.append h1,by simp[h2],fun sz hs r hr=> ?_⟩
  rcases ON.1 hr with rfl|hr
  ·rw[h.length];exact hs _ oS
  ·exact h3 sz (fun r hr=>hs r (by simp[hr])) r hr
def As:Ch->Ch->Prop
 | .vec e sz rows,c=>∃ rows',c= .vec e sz rows'/\kA rows rows'
 | .box cs,c=>∃ cs',c= .box cs'/\ba cs cs'
 |a,b=>a=b
theorem bj:∀ {a b:Ch},a=b->As a b
 | .vec _ _ _,_,h=>⟨_,h.symm,kA.rfl⟩
 | .box _,_,h=>⟨_,h.symm,ba.rfl⟩
 | .dead,_,h=>h
 | .map _ _,_,h=>h
 | .bld _ _ _,_,h=>h
theorem cC {a a' b:Ch} (h1:a=a') (h2:As a' b):As a b:=h1▸h2
theorem qD {e sz:Nat} {a b:List (List SV)} (h:kA a b):As (.vec e sz a) (.vec e sz b):=⟨b,rfl,h⟩
theorem Fr {a b:List SV} (h:ba a b):As (.box a) (.box b):=⟨b,rfl,h⟩
theorem J0 {w:World} {M:Nat->Prop} {κ:Nat->Value} {id:Nat} {F:List Nat}:∀ {a b:Ch},As a b->kj w M κ id a F->kj w M κ id b F
 | .vec e sz rows,b,h,hr=>by
  obtain⟨rows',rfl,h⟩:=h
  obtain⟨h1,h2,h3⟩:=h.flat
  obtain⟨xs,G,k1,k2,k3,k4,k5⟩:=hr
  exact⟨xs,G,by rw[h2];exact k1,k2,h3 _ k3,Aj h1 k4,k5⟩
 | .box cs,b,h,hr=>by
  obtain⟨cs',rfl,h⟩:=h
  obtain⟨b,T,vs,G,k1,k2,k3,k4,k5⟩:=hr
  exact⟨b,T,vs,G,k1,k2,k3,Aj h k4,k5⟩
 | .dead,b,h,hr=>by cases h;exact hr
 | .map _ _,b,h,hr=>by cases h;exact hr
 | .bld _ _ _,b,h,hr=>by cases h;exact hr
def Do (σ:St):List (Nat×Ch)->Prop
 |[]=>True
 |(i,v)::l=>As (σ.h i) v/\Do σ l
theorem ax {σ:St}:Do σ []:=trivial
theorem aU {s:Nat->SV} {h:Nat->Ch} {i:Nat} {v:Ch} {l:List (Nat×Ch)} (h1:As (h i) v) (h2:Do ⟨s,h⟩ l):Do ⟨s,h⟩ ((i,v)::l):=⟨h1,h2⟩
theorem zj {σ σ':St} (hs:∀ i,tw (σ.s i) (σ'.s i)) (hh:∀ i,As (σ.h i) (σ'.h i)):dB σ σ':=by
 intro c κ φ a w hr
 refine⟨κ,φ, ?_⟩
 exact{hr with
  slots:=fun i hi=>yr (hs i) (hr.slots i hi)
  ghost:=fun i v hv=>yr (hs _) (hr.ghost i v hv)
  chunks:=fun id=>J0 (hh id) (hr.chunks id)}
open Classical in
theorem aW {σ:St} {l:List (Nat×SV)} {hl:List (Nat×Ch)} (hs:Dn σ l) (hh:Do σ hl):dB σ (st l hl):=by
 have hk:∀ {hl:List (Nat×Ch)},Do σ hl->∀ i,lh hl i= .dead\/As (σ.h i) (lh hl i):=by
  intro hl
  induction hl with
  |nil=>intro _ i;exact .inl rfl
  |cons p hl ih=>
   obtain⟨j,v⟩:=p
   intro hk i
   simp only[lh]
   by_cases hij:i=j
   ·subst hij;simp only[PR];exact .inr hk.1
   ·simp only[hij,Pp];exact ih hk.2 i
 have h1:dB σ ⟨fun i=>if lk l i= .d .any then σ.s i else lk l i,fun i=>if lh hl i= .dead then σ.h i else lh hl i⟩:=zj (fun i=>by
  by_cases hi:lk l i= .d .any
  ·simp only[hi,PR];exact .inl rfl
  ·simp only[hi,Pp]
   rcases Fq hs i with h|h
   ·exact absurd h hi
   ·exact h) (fun i=>by
  by_cases hi:lh hl i= .dead
  ·simp only[hi,PR];exact bj rfl
  ·simp only[hi,Pp]
   rcases hk hh i with h|h
   ·exact absurd h hi
   ·exact h)
 refine h1.trans (BO (fun i=> ?_) (fun i=> ?_))
 ·by_cases hi:lk l i= .d .any
  ·exact .inr hi
  ·refine .inl ?_;simp only[hi,Pp]
 ·by_cases hi:lh hl i= .dead
  ·exact .inr hi
  ·refine .inl ?_;simp only[hi,Pp]
section
variable {α:Type} {row:α->List DV}
theorem cT {l l':List (List DV)} (h:l=l'):DV.slice l=DV.slice l':=by rw[h]
theorem cU:([]:List (List DV))=([]:List α).map row:=rfl
theorem ez {r:List DV} {rs:List (List DV)} {a:α} {l:List α} (h1:r=row a) (h2:rs=l.map row):r::rs=(a::l).map row:=by rw[h1,h2];rfl
theorem wq (id:Nat) (dv:DV) (l:List α):rx id dv (bF row l)=bF row l:=DZ id dv _
theorem Id (l:List α):SV.frzR (bF row l)=some (l.map row):=D0 _
theorem uN (l:List α):(bF row l).length=l.length:=by simp[bF]
theorem wP {a b:List DV} (h:a=b):DV.tup a=DV.tup b:=by rw[h]
theorem p5 {a b:List DV} (h:a=b):DV.agg a=DV.agg b:=by rw[h]
theorem eo {a b:DV} {l l':List DV} (h:a=b) (k:l=l'):a::l=b::l':=by rw[h,k]
theorem Ef (n:Int) (h:0<=n/\n<256):DV.int .u8 n=DV.int .u8 ((UInt8.ofNat n.toNat).toNat:Int):=by
 rw[UInt8.toNat_ofNat_of_lt' (by show n.toNat<256;omega)]
 congr 1;omega
theorem Hg:kA [] (bF row ([]:List α)):= .nil
theorem mP {l:List α}:kA (bF row l) (bF row l):=kA.rfl
end
section
variable {P:Program} {s:Nat->SV} {h:Nat->Ch} {K:St->Prop} {sos:List SO} {α:Type} {row:α->List DV}
theorem Ft {sz:Nat} (hsz:∀ e,(row e).length=sz) (l:List α):∀ r∈bF row l,r.length=sz:=by
 intro r hr
 simp only[bF,Qc,Pd,Function.comp] at hr
 obtain⟨a,_,rfl⟩:=hr
 simp[dR,hsz]
theorem Ak (l l':List α):bF row l++bF row l'=bF row (l++l'):=by simp[bF]
theorem Ie {n:Nat} {v:SV} (hv:tw (s n) v):dB ⟨s,h⟩ ⟨aH s n v,h⟩:=JY rfl fun i=>by
 by_cases hi:i=n
 ·subst hi;simp only[aH,PR];exact hv
 ·simp only[aH,hi,Pp];exact .inl rfl
theorem xt {R:Type} {r:R} {l l2:List α} {m n dst e sz id:Nat} {Y:SV} {d:DV} {kk:Option R} (hm:jV (tu (l.length+l2.length)) kk=some r) (hx:s m= .vec id) (hh:h id= .vec e sz (bF row l)) (hy:s n=Y) (hd:Y.toDV=some d) (he:d= .slice (l2.map row)) (hne:m≠n) (hsz:∀ a,(row a).length=sz)
  (hk:kk=some r->bh P K sos ⟨aH (gn id .any (aH s n (.d (.slice (l2.map row))))) dst (.vec id),aH (lv id .any h) id (.vec e sz (bF row (l++l2)))⟩):bh P K (.w dst (.app e sz (.t m) (.t n))::sos) ⟨s,h⟩:=by
 cases hl:tu (l.length+l2.length) with
 |none=>rw[hl] at hm;cases hm
 |some u=>
  rw[hl] at hm
  have hlen:=Dm.1 hl
  refine Oc (Ie (n:=n) (v:= .d (.slice (l2.map row))) (by rw[hy];exact Hf (he▸hd))) (p:=e=e/\sz=sz/\(∀ r∈(l2.map row).map dR,r.length=sz)/\(bF row l).length+((l2.map row).map dR).length<=137438953472) ?_ ⟨rfl,rfl,Ft hsz l2,by simp only[uN,Px];exact hlen⟩ (hk hm)
  simp only[wr,ev,aH,hne,Pp,PR,hx,x_,SV.toDV,hh,c6,St.swap]
  rw[show(l2.map row).map dR=bF row l2 from rfl,Ak,wq]
theorem J1 {l:List α} {a:α} {f:α->α} {e sz id i off n:Nat} {p v:SX} {vs:List SV} (hx:ev s p= .vref id sz i off) (hh:h id= .vec e sz (bF row l)) (hv:(ev s v).cells?=some vs) (hn:(vs.length==n)=true) (hc:∀ a,splice (dR (row a)) off vs=dR (row (f a))) (hsz:∀ a,(row a).length=sz) (ho:(decide (off+n<=sz))=true) (ha:l[i]?=some a) (dst:Nat):
  ∃ q,wr ⟨s,h⟩ dst (.st n p v)=some (q,⟨s,aH h id (.vec e sz (bF row (l.set i (f a))))⟩)/\q:=by
 have hri:(bF row l)[i]?=some (dR (row a)):=by simp[bF,O6,ha]
 refine⟨sz=sz/\vs.length=n/\off+n<=(dR (row a)).length, ?_,rfl,by simpa using hn,by simpa[dR,hsz] using ho⟩
 simp only[wr,hx,hh,hv,hri,hc a]
 congr 2
 simp[bF,List.map_set]
theorem NE {R:Type} {r:R} {l:List α} {f:α->α} {cs:α->List SV} {dst e sz id i off n:Nat} {p v:SX} {vs:List SV} {kk:α->Option R} (hm:(l[i]?).bind kk=some r) (hx:ev s p= .vref id sz i off) (hh:h id= .vec e sz (bF row l)) (hv:(ev s v).cells?=some vs) (hn:(vs.length==n)=true) (hsz:∀ a,(row a).length=sz) (ho:(decide (off+n<=sz))=true) (hc0:∀ a,splice (dR (row a)) off vs=cs a) (hc1:∀ a,cs a=dR (row (f a)))
  (hk:∀ a,kk a=some r->bh P K sos ⟨s,aH h id (.vec e sz (bF row (l.set i (f a))))⟩):bh P K (.w dst (.st n p v)::sos) ⟨s,h⟩:=by
 cases ha:l[i]? with
 |none=>rw[ha] at hm;cases hm
 |some a=>
  rw[ha] at hm
  obtain⟨q,h1,h2⟩:=J1 hx hh hv hn (fun a=>(hc0 a).trans (hc1 a)) hsz ho ha dst
  exact wM h1 h2 (hk a hm)
theorem GB {R:Type} {r:R} {l:List α} {f:α->α} {cs:α->List SV} {dst e sz id i off n:Nat} {p v:SX} {vs:List SV} {late:List (Nat×Nat×uk)} {kk:α->Option R} (hm:(l[i]?).bind kk=some r) (hx:ev s p= .vref id sz i off) (hh:h id= .vec e sz (bF row l)) (hv:(ev s v).cells?=some vs) (hn:(vs.length==n)=true) (hsz:∀ a,(row a).length=sz) (ho:(decide (off+n<=sz))=true) (hc0:∀ a,splice (dR (row a)) off vs=cs a) (hc1:∀ a,cs a=dR (row (f a)))
  (hl:∀ a,Co ⟨s,aH h id (.vec e sz (bF row (l.set i (f a))))⟩ late)
  (hk:∀ a,kk a=some r->bh P K sos ⟨s,aH h id (.vec e sz (bF row (l.set i (f a))))⟩):bh P K (.x dst (.st n p v) late::sos) ⟨s,h⟩:=by
 cases ha:l[i]? with
 |none=>rw[ha] at hm;cases hm
 |some a=>
  rw[ha] at hm
  obtain⟨q,h1,h2⟩:=J1 hx hh hv hn (fun a=>(hc0 a).trans (hc1 a)) hsz ho ha dst
  exact Nw h1 h2 (hl a) (hk a hm)
theorem Eg {R α:Type} {r:R} {l:List α} {row:α->List DV} {sz n e id i:Nat} {x:SX} {dst:Nat} {kk:α->Option R} (hm:(l[i]?).bind kk=some r) (hx:ev s x= .vref id sz i 0) (hh:h id= .vec e sz (bF row l)) (hsz:∀ a,(row a).length=n)
  (hk:∀ a,kk a=some r->bh P K sos ⟨aH s dst (.agg (dR (row a))),h⟩):bh P K (.r dst (.ldA n x)::sos) ⟨s,h⟩:=by
 cases he:l[i]? with
 |none=>rw[he] at hm;cases hm
 |some a=>
  rw[he] at hm
  have hn:SV.noOwns (dR (row a))=true:=by
   have:∀ l:List DV,SV.noOwns (dR l)=true:=fun l=>by induction l with|nil=>rfl|cons d l ih=>simpa[dR,SV.noOwns,SV.noOwn] using ih
   exact this _
  have ht:(dR (row a)).take n=dR (row a):=O8 (by simp[dR,hsz])
  refine im (p:=sz=sz/\0+n<=(dR (row a)).length) (v:= .agg (dR (row a))) ?_ ⟨rfl,by simp[dR,hsz]⟩ (hk a hm)
  simp only[rd,hx,hh,bF,O6,he,Pf,List.drop_zero,ht,hn,PR]
end
attribute [push_cast] JV sK wq Id uN yp H_ en Fp rz Px
