/-
  My text.
-/
import Derived.Test.YteaolfcegaidpaaGreatDoorSZEngU
namespace Go.Proofs.YteaolfcegaidpaaGreatDoor
set_option linter.unusedSimpArgs false
set_option linter.unusedVariables false
open Go.RowKit
variable {A C:Type} {F:List Nat} {L:SV} {M:Nat->Prop} {R S:Type} {X:SC} {Y:SV} {args:List SX} {as:List DV} {b:List (List SV)} {d d':DV} {dst e:Nat} {h:Nat->Ch} {hi:Option Int} {i id:Nat} {j:Option SX} {lo:Option Int} {n off:Nat} {p:SX} {qs:List RV} {s:Nat->SV} {sz:Nat} {u:Unit} {v:Value} {vs:List SV} {w:World} {xs ys:List SV} {α:Type} {κ:Nat->Value} {σ:St} {H:α->List DV} {Q:R->AX->St->Prop} {a:Option A} {c:C} {enc:A->DV} {k:S->Option R} {kk:α->Option R} {l:List α} {m:Option R} {mk:S->St} {o:S⊕R} {r:R} {s0:S} {step:S->Option (S⊕(S⊕R))}
def wB (n:Int):List DV:=[.int .i64 n]
def EU (b:UInt8):List DV:=[.int .u8 b.toNat]
def bS (s:List UInt8):List DV:=[.str s]
def Cn (b:Bool):List DV:=[.bool b]
def fy (H:α->List DV) (l:List α):List DV:=[.slice (l.map H)]
def bG (H:α->List DV) (l:List α):List (List SV):=(l.map H).map dR
def sf (n:Nat):Option Unit:=if n<=137438953472 then some () else none
theorem Bg:sf n=some u↔n<=137438953472:=by unfold sf;split<;>simp_all
def Le (n:Nat):Option Unit:=if n<=1000000000000 then some () else none
theorem Lf:Le n=some u↔n<=1000000000000:=by unfold Le;split<;>simp_all
def iZ (c:Option Unit) (m:Option R):Option R:=c.bind fun _=>m
def Aa (mk:S->St) (Q:R->AX->St->Prop):S⊕R->AX->St->Prop
 | .inl F,.normal,σ=>cS σ (mk F)
 | .inr r,.exit i,σ=>Q r (.exit i) σ
 | .inr r,.ret,σ=>Q r .ret σ
 |_,_,_=>False
def bX {T:Type} (k:T->Option R):T⊕R->Option R
 | .inl t=>k t
 | .inr r=>some r
def cb (m:Option R):Option (S⊕R):=m.map .inr
section
variable {P:Program} {x y:SC} {σ:St} {s:Nat->SV} {h:Nat->Ch} {K:St->Prop} {sos:List SO}
theorem aI {b:Bool} {m1 m2:Option R} {Q:AX->St->Prop} {t:SX} (Z:(bif b then m1 else m2)=some r) (hc:ev s t= .d (.bool b)) (hx:m1=some r->AW P x Q ⟨s,h⟩) (hy:m2=some r->AW P y Q ⟨s,h⟩):AW P (.cond t x y) Q ⟨s,h⟩:=by
 refine JP hc (fun e=> ?_) (fun e=> ?_)
 ·subst e;exact hx Z
 ·subst e;exact hy Z
theorem Qt (mk:S->St) {step:S->Option (S⊕R)} (Z:bJ step s0=some r) (h0:cS σ (mk s0)) (hb:∀ s o,step s=some o->AW P x (Aa mk Q o) (mk s)):AW P (.loop x) (Q r) σ:=by
 obtain⟨n,hn⟩:=zg.1 Z
 refine Ml (fun m σ=>∃ s,σ=mk s/\nY step m s=some r) n ⟨_,h0,s0,rfl,hn⟩ ?_
 rintro m _ ⟨s,rfl,hl⟩
 cases m with
 |zero=>simp[nY] at hl
 |succ m=>
  simp only[nY] at hl
  split at hl
  ·rename_i F hs
   refine A7 (fun e X J=> ?_) (hb s _ hs)
   cases e with
   |normal=>exact⟨m,mk F,by omega,J,F,rfl,hl⟩
   |exit i=>exact J.elim
   |ret=>exact J.elim
  ·rename_i r' hs
   simp only[SN] at hl;subst hl
   refine A7 (fun e X J=> ?_) (hb s _ hs)
   cases e with
   |normal=>exact J.elim
   |exit i=>exact J
   |ret=>exact J
  ·cases hl
theorem bz {F:S} {M:St} (Z:some (.inl F)=some o) (hM:mk F=M) (hi:cS σ M):Aa mk Q o .normal σ:=by
 cases Z;subst hM;exact hi
theorem br (Z:cb m=some o) (hi:∀ r,m=some r->Q r (.exit i) σ):Aa mk Q o (.exit i) σ:=by
 cases m with
 |none=>cases Z
 |some r=>cases Z;exact hi r rfl
theorem b8 (Z:cb m=some o) (hi:∀ r,m=some r->Q r .ret σ):Aa mk Q o .ret σ:=by
 cases m with
 |none=>cases Z
 |some r=>cases Z;exact hi r rfl
theorem bP {r0:R} {enc:R->DV} (Z:some r0=some r) (G:cE σ qs=some d) (J:d=enc r0):Ok qs (enc r) .ret σ:=by
 cases Z;subst J;exact⟨σ,cS.refl σ,G⟩
theorem iu {B:Type} {r:A×B} {a:A} {b:B} {d0:DV} {enc:A×B->DV} (Z:some (a,b)=some r) (G:cE σ qs=some d') (h0:enc (a,b)=d0) (J:d'=d0):Ok qs (enc r) .ret σ:=bP Z G (J.trans h0.symm)
theorem b5 {v v0:Bool} {u:Nat} (Z:some v0=some v) (G:s u= .d (.bool v0)):H5 u v ⟨s,h⟩:=by
 cases Z;exact G
def vr (Q:AX->St->Prop):Prop:=∀ e σ X,cS σ X->Q e X->Q e σ
theorem aB {Q:AX->St->Prop} (hq:vr Q):vr (Mk P y Q):=by
 intro e σ X hi h
 cases e with
 |normal=>exact Ft hi h
 |exit i=>exact hq _ _ _ hi h
 |ret=>exact hq _ _ _ hi h
theorem cz {Q:AX->St->Prop} {b:Nat} (hq:vr Q):vr (ke b Q):=by
 intro e σ X hi h
 cases e with
 |normal=>exact hq _ _ _ hi h
 |exit i=>simp only[ke] at h⊢;split at h<;>rename_i hb<;>simp only[hb,T6,Tv]<;>exact hq _ _ _ hi h
 |ret=>exact hq _ _ _ hi h
theorem bd {C:DV}:vr (Ok qs C):=by
 intro e σ X hi h
 cases e with
 |normal=>obtain⟨h5,h1,h2⟩:=h;exact⟨h5,hi.trans h1,h2⟩
 |exit i=>exact h
 |ret=>obtain⟨h5,h1,h2⟩:=h;exact⟨h5,hi.trans h1,h2⟩
theorem c8 {N:Nat} {C:SV} {outs:List SV}:vr (z_ N n qs C outs):=by
 intro e σ X hi h
 cases e with
 |normal=>obtain⟨h5,h1,h2⟩:=h;exact⟨h5,hi.trans h1,h2⟩
 |exit i=>exact h
 |ret=>obtain⟨h5,h1,h2⟩:=h;exact⟨h5,hi.trans h1,h2⟩
theorem c2 (hq:∀ r,vr (Q r)):vr (Aa mk Q o):=by
 intro e σ X hi h
 cases o with
 |inl F=>cases e with
  |normal=>exact hi.trans h
  |exit i=>exact h
  |ret=>exact h
 |inr r=>cases e with
  |normal=>exact h
  |exit i=>exact hq r _ _ _ hi h
  |ret=>exact hq r _ _ _ hi h
def GQ (b:Nat) (mk:S->St) (Q:R->AX->St->Prop):S⊕R->AX->St->Prop
 | .inl F,.exit i,σ=>i=b/\cS σ (mk F)
 | .inr r,.exit i,σ=>i≠b/\Q r (.exit i) σ
 | .inr r,.ret,σ=>Q r .ret σ
 |_,_,_=>False
theorem dZ {b:Nat} (hq:∀ r,vr (Q r)):vr (GQ b mk Q o):=by
 intro e σ X hi h
 cases o with
 |inl F=>cases e with
  |normal=>exact h
  |exit i=>exact⟨h.1,hi.trans h.2⟩
  |ret=>exact h
 |inr r=>cases e with
  |normal=>exact h
  |exit i=>exact⟨h.1,hq r _ _ _ hi h.2⟩
  |ret=>exact hq r _ _ _ hi h
theorem co {b:Nat} {F:S} {M:St} (Z:some (.inl F)=some o) (hM:mk F=M) (hi:cS σ M):GQ b mk Q o (.exit b) σ:=by
 cases Z;subst hM;exact⟨rfl,hi⟩
theorem dQ {b:Nat} (Z:cb m=some o) (hi:∀ r,m=some r->Q r .ret σ):GQ b mk Q o .ret σ:=by
 cases m with
 |none=>cases Z
 |some r=>cases Z;exact hi r rfl
theorem OG {b:Nat} (mk:C->S->St) (Z:(bJ step s0).bind (bX k)=some r) (h0:cS σ (mk c s0)) (hq:∀ r,vr (Q r)) (hb:∀ s o,step s=some o->AW P x (Aa (mk c) (GQ b (mk c) Q) o) (mk c s)) (hk:∀ s,k s=some r->Q r .normal (mk c s)):AW P (.block b (.loop x)) (Q r) σ:=by
 cases ha:bJ step s0 with
 |none=>rw[ha] at Z;cases Z
 |some o=>
  rw[ha] at Z
  refine aX (A7 (fun e X J=> ?_) (Qt (mk c) ha h0 hb))
  cases o with
  |inl t=>
   cases e with
   |normal=>exact J.elim
   |exit i=>obtain⟨h1,h2⟩:=J;subst h1;exact iY (hq r _ _ _ h2 (hk t Z))
   |ret=>exact J.elim
  |inr r'=>
   simp only[SQ,bX,SN] at Z;subst Z
   cases e with
   |normal=>exact J.elim
   |exit i=>exact wT J.1 J.2
   |ret=>exact J
theorem OH {b:Nat} (hX:X= .block b (.loop x)) (mk:C->S->St) {mk':S->St} {M:St} (Z:(bJ step s0).bind (bX k)=some r) (hM:mk c s0=M) (h0:cS σ M) (r8:mk c=mk') (hq:∀ r,vr (Q r)) (hb:∀ s o,step s=some o->AW P x (Aa mk' (GQ b mk' Q) o) (mk' s)) (hk:∀ s,k s=some r->Q r .normal (mk' s)):AW P X (Q r) σ:=by
 subst r8 hM;rw[hX];exact OG mk Z h0 hq hb hk
structure cc (A B:Prop):Prop where
 a:A
 b:B
structure cM {S R:Type} (P:Program) (x:SC) (Q:R->AX->St->Prop) (r:R) (b:Nat) (m:S->St) (step:S->Option (S⊕(S⊕R))) (k:S->Option R):Prop where
 hq:∀ r,vr (Q r)
 hb:∀ s o,step s=some o->AW P x (Aa m (GQ b m Q) o) (m s)
 hk:∀ s,k s=some r->Q r .normal (m s)
theorem cM.of {b:Nat} {m m':S->St} (r8:m=m') (hq:∀ r,vr (Q r)) (hb:∀ s o,step s=some o->AW P x (Aa m' (GQ b m' Q) o) (m' s)) (hk:∀ s,k s=some r->Q r .normal (m' s)):cM P x Q r b m step k:=by
 subst r8;exact⟨hq,hb,hk⟩
theorem av {b:Nat} (hX:X= .block b (.loop x)) (mk:C->S->St) {M:St} (Z:(bJ step s0).bind (bX k)=some r) (hM:mk c s0=M) (h:cc (cS σ M) (cM P x Q r b (mk c) step k)):AW P X (Q r) σ:=OH hX mk Z hM h.a rfl h.b.hq h.b.hb h.b.hk
theorem MS (mk:C->S->St) {a:Option (S⊕R)} (Z:a.bind (bX k)=some r) (h1:∀ o,a=some o->AW P x (Aa (mk c) Q o) σ) (hq:∀ r,vr (Q r)) (hk:∀ s,k s=some r->Q r .normal (mk c s)):AW P x (Q r) σ:=by
 cases ha:a with
 |none=>rw[ha] at Z;cases Z
 |some o=>
  rw[ha] at Z
  refine A7 (fun e X J=> ?_) (h1 o ha)
  cases o with
  |inl t=>
   cases e with
   |normal=>exact hq r _ _ _ J (hk t Z)
   |exit i=>exact J.elim
   |ret=>exact J.elim
  |inr r'=>
   simp only[SQ,bX,SN] at Z;subst Z
   cases e with
   |normal=>exact J.elim
   |exit i=>exact J
   |ret=>exact J
theorem Qu {k:A->Option R} {f:Nat} (Z:a.bind k=some r) (ha:SV.toDVs (args.map (ev s))=some as) (hs:∀ x,a=some x->aa P f as (enc x)) (hk:∀ x,k x=some r->a6 P K sos ⟨aD s dst (.d (enc x)),h⟩):a6 P K (.c dst (.f f) args::sos) ⟨s,h⟩:=by
 cases hx:a with
 |none=>rw[hx] at Z;cases Z
 |some x=>rw[hx] at Z;exact SK ha (hs x hx) (hk x Z)
theorem dD {k:A->Option R} {f:Nat} {b:List DV} (Z:a.bind k=some r) (ha:SV.toDVs (args.map (ev s))=some b) (hs:∀ x,a=some x->aa P f as (enc x)) (J:b=as) (hk:∀ x,k x=some r->a6 P K sos ⟨aD s dst (.d (enc x)),h⟩):a6 P K (.c dst (.f f) args::sos) ⟨s,h⟩:=by
 subst J;exact Qu Z ha hs hk
theorem Rv {k:A->Option R} {f:Nat} (Z:a.bind k=some r) (ha:SV.lends h (args.map (ev s))=some as) (hs:∀ x,a=some x->aa P f as (enc x)) (hf:∀ x,(enc x).flat=true) (hk:∀ x,k x=some r->a6 P K sos ⟨aD s dst (.d (enc x)),h⟩):a6 P K (.c dst (.f f) args::sos) ⟨s,h⟩:=by
 cases hx:a with
 |none=>rw[hx] at Z;cases Z
 |some x=>rw[hx] at Z;exact Sh ha (hs x hx) (hf x) (hk x Z)
theorem J4 {k:A->Option R} {t f:Nat} {caps:List DV} (Z:a.bind k=some r) (hf:s t= .d (.fn f caps)) (ha:SV.toDVs (args.map (ev s))=some as) (hs:∀ x,a=some x->aa P f (as++caps) (enc x)) (hk:∀ x,k x=some r->a6 P K sos ⟨aD s dst (.d (enc x)),h⟩):a6 P K (.c dst (.t t) args::sos) ⟨s,h⟩:=by
 cases hx:a with
 |none=>rw[hx] at Z;cases Z
 |some x=>rw[hx] at Z;exact Sg hf ha (hs x hx) (hk x Z)
theorem cF {op:wh} (G:a6 P K (.r dst op::sos) ⟨s,h⟩):a6 P K (.o dst op::sos) ⟨s,h⟩:=by
 simp only[a6,AO] at G⊢
 split at G
 ·rename_i p v hr;exact⟨⟨s,h⟩,cS.refl _,p,v,hr,G.1,G.2⟩
 ·exact G.elim
theorem J5 {n:Int} {e:α} {x i:SX} {k:IntKind} (hx:ev s x= .d (.slice (l.map H))) (hi:ev s i= .d (.int k n)) (I:∀ e,(H e).length=sz) (J:cm l n=some e):
  rd h s (.idx sz x i)=some (0<=n/\(H e).length=sz,.d (.ptr (H e)))/\0<=n/\(H e).length=sz:=by
 unfold cm at J
 split at J
 ·rename_i h0
  refine⟨?_,h0,I e⟩
  simp only[rd,hi,hx,Tk,J,TL]
 ·cases J
theorem cA {n:Int} {x i:SX} {k:IntKind} (Z:(cm l n).bind kk=some r) (hx:ev s x= .d (.slice (l.map H))) (hi:ev s i= .d (.int k n)) (I:∀ e,(H e).length=sz) (hk:∀ e,kk e=some r->a6 P K sos ⟨aD s dst (.d (.ptr (H e))),h⟩):a6 P K (.r dst (.idx sz x i)::sos) ⟨s,h⟩:=by
 cases J:cm l n with
 |none=>rw[J] at Z;cases Z
 |some e=>
  rw[J] at Z
  obtain⟨h1,h2⟩:=J5 (h:=h) hx hi I J
  exact fi h1 h2 (hk e Z)
theorem nZ {l:List UInt8} {n:Int} {x i:SX} {k:IntKind} {kk:UInt8->Option R} (Z:(cm l n).bind kk=some r) (hx:ev s x= .d (.str l)) (hi:ev s i= .d (.int k n)) (hk:∀ e,kk e=some r->a6 P K sos ⟨aD s dst (.d (.int .u8 (e.toNat:Int))),h⟩):a6 P K (.r dst (.sidx x i)::sos) ⟨s,h⟩:=by
 cases J:cm l n with
 |none=>rw[J] at Z;cases Z
 |some e=>
  rw[J] at Z
  unfold cm at J
  split at J
  ·rename_i h0
   refine fi (p:=0<=n) (v:= .d (.int .u8 e.toNat)) ?_ h0 (hk e Z)
   simp only[rd,hi,hx,J]
  ·cases J
theorem Bh {x:SX} {i:Option SX} {kk:List α->Option R} (Z:(dP l (lo.getD 0) (hi.getD l.length)).bind kk=some r) (hx:ev s x= .d (.slice (l.map H))) (hl:Hf s i=some lo) (hh:Hf s j=some hi) (I:∀ e,(H e).length=sz) (hk:∀ e,kk e=some r->a6 P K sos ⟨aD s dst (.d (.slice (e.map H))),h⟩):a6 P K (.r dst (.slc sz x i j)::sos) ⟨s,h⟩:=by
 cases J:dP l (lo.getD 0) (hi.getD l.length) with
 |none=>rw[J] at Z;cases Z
 |some e=>
  rw[J] at Z
  unfold dP at J
  split at J
  ·rename_i h0
   simp only[SN] at J
   refine fi (p:=(∀ r∈l.map H,r.length=sz)/\0<=lo.getD 0/\lo.getD 0<=hi.getD (l.map H).length/\hi.getD (l.map H).length<=(l.map H).length) (v:= .d (.slice (e.map H))) ?_ ⟨fun q hq=>by obtain⟨z,_,rfl⟩:=Tu.1 hq;exact I z,by simpa using h0⟩ (hk e Z)
   simp only[rd,hx,hl,hh,<-J,List.map_drop,List.map_take,TO]
  ·cases J
theorem J6 {l:List UInt8} {x:SX} {i:Option SX} {kk:List UInt8->Option R} (Z:(dP l (lo.getD 0) (hi.getD l.length)).bind kk=some r) (hx:ev s x= .d (.str l)) (hl:Hf s i=some lo) (hh:Hf s j=some hi) (hk:∀ e,kk e=some r->a6 P K sos ⟨aD s dst (.d (.str e)),h⟩):a6 P K (.r dst (.sslc x i j)::sos) ⟨s,h⟩:=by
 cases J:dP l (lo.getD 0) (hi.getD l.length) with
 |none=>rw[J] at Z;cases Z
 |some e=>
  rw[J] at Z
  unfold dP at J
  split at J
  ·rename_i h0
   simp only[SN] at J
   refine fi (p:=0<=lo.getD 0/\lo.getD 0<=hi.getD l.length/\hi.getD l.length<=l.length) (v:= .d (.str e)) ?_ h0 (hk e Z)
   simp only[rd,hx,hl,hh,<-J]
  ·cases J
theorem MT {a b:List UInt8} {x y:SX} {kk:Option R} (Z:iZ (Le (a.length+b.length)) kk=some r) (hx:ev s x= .d (.str a)) (hy:ev s y= .d (.str b)) (hk:kk=some r->a6 P K sos ⟨aD s dst (.d (.str (a++b))),h⟩):a6 P K (.r dst (.bin .add x y)::sos) ⟨s,h⟩:=by
 cases J:Le (a.length+b.length) with
 |none=>rw[J] at Z;cases Z
 |some u=>
  rw[J] at Z
  exact fi (by simp only[rd,hx,hy,zN,JF]) (Lf.1 J) (hk Z)
theorem CN {n:Int} {x i:SX} {k:IntKind} (Z:(cm l n).bind kk=some r) (hx:ev s x= .vec id) (hh:h id= .vec e sz (bG H l)) (hi:ev s i= .d (.int k n)) (hk:∀ a,kk a=some r->a6 P K sos ⟨aD s dst (.vref id sz n.toNat 0),h⟩):a6 P K (.r dst (.idx sz x i)::sos) ⟨s,h⟩:=by
 cases J:cm l n with
 |none=>rw[J] at Z;cases Z
 |some a=>
  rw[J] at Z
  unfold cm at J
  split at J
  ·rename_i h0
   obtain⟨h9,_⟩:=SY.1 J
   refine fi (p:=0<=n/\n<(bG H l).length/\sz=sz) (v:= .vref id sz n.toNat 0) ?_ ⟨h0,by simp only[bG,TO];omega,rfl⟩ (hk a Z)
   simp only[rd,hi,hx,hh]
  ·cases J
theorem OI {x:SX} {c:α->DV} (Z:(l[i]?).bind kk=some r) (hx:ev s x= .vref id sz i off) (hh:h id= .vec e sz (bG H l)) (hc:∀ a,(H a)[off]?=some (c a)) (hk:∀ a,kk a=some r->a6 P K sos ⟨aD s dst (.d (c a)),h⟩):a6 P K (.r dst (.ld1 x)::sos) ⟨s,h⟩:=by
 cases J:l[i]? with
 |none=>rw[J] at Z;cases Z
 |some a=>
  rw[J] at Z
  refine fi (p:=sz=sz) (v:= .d (c a)) ?_ rfl (hk a Z)
  simp only[rd,hx,hh,bG,Tk,J,TL,dR,hc a,SV.noOwn,T6]
end
def vt (x y:SV):Prop:=x=y\/∃ d,x.toDV=some d/\y= .d d
def FJ (σ:St):List (Nat×SV)->Prop
 |[]=>True
 |(i,v)::l=>vt (σ.s i) v/\FJ σ l
theorem aw:FJ σ []:=trivial
theorem aq {v:SV} {l:List (Nat×SV)} (h1:vt (s i) v) (h2:FJ ⟨s,h⟩ l):FJ ⟨s,h⟩ ((i,v)::l):=⟨h1,h2⟩
theorem GR {x:SV} (h:x.toDV=some d):vt x (.d d):= .inr ⟨d,h,rfl⟩
theorem aS {x y:SV} (h1:x=L) (h2:L=y):vt x y:= .inl (h1.trans h2)
theorem OJ {x:SV} (h1:x=L) (h2:L.toDV=some d') (E:d'=d):vt x (.d d):=by subst h1 E;exact GR h2
theorem Ab {x y:SV} (h:vt x y) (hx:ah w M κ x v):ah w M κ y v:=by
 rcases h with rfl|⟨d,h1,rfl⟩
 ·exact hx
 ·exact ah.toDV x v d hx h1
theorem MU {X:St} (hh:X.h=σ.h) (hs:∀ i,vt (σ.s i) (X.s i)):cS σ X:=by
 intro c κ φ a w hr
 refine⟨κ,φ, ?_⟩
 exact{hr with
  slots:=fun i hi=>Ab (hs i) (hr.slots i hi)
  ghost:=fun i v hv=>Ab (hs _) (hr.ghost i v hv)
  chunks:=fun id=>by rw[hh];exact hr.chunks id}
theorem H6 {σ:St}:∀ {l:List (Nat×SV)},FJ σ l->∀ i,lk l i= .d .any\/vt (σ.s i) (lk l i)
 |[],_,i=> .inl rfl
 |(j,v)::l,h,i=>by
  simp only[lk]
  by_cases V:i=j
  ·subst V;simp only[T6];exact .inr h.1
  ·simp only[V,Tv];exact H6 h.2 i
mutual
theorem D1:∀ (x:SV) (d:DV),x.toDV=some d->x.noOwn=true
 | .d _,_,_=>rfl
 | .nils,_,_=>rfl
 | .lit _ _ _,_,_=>rfl
 | .agg cs,d,h=>by
  unfold SV.toDV at h
  split at h
  ·rename_i xs hx;unfold SV.noOwn;exact rC cs xs hx
  ·cases h
 | .tup cs,d,h=>by
  unfold SV.toDV at h
  split at h
  ·rename_i xs hx;unfold SV.noOwn;exact rC cs xs hx
  ·cases h
 | .ref _ _,_,_=>rfl
 | .vec _,_,_=>rfl
 | .vref _ _ _ _,_,_=>rfl
 | .mp _,_,_=>rfl
 | .clo _ _,_,_=>rfl
 | .own _ _,d,h=>by unfold SV.toDV at h;cases h
theorem rC:∀ (cs:List SV) (O:List DV),SV.toDVs cs=some O->SV.noOwns cs=true
 |[],_,_=>rfl
 |c::cs,O,h=>by
  unfold SV.toDVs at h
  split at h
  ·rename_i x xs h1 h2
   unfold SV.noOwns;rw[D1 c x h1,rC cs xs h2];rfl
  ·cases h
end
theorem Lg {x y:SV} (h:vt x y) (hx:aQ w M κ x v F):aQ w M κ y v F:=by
 rcases h with rfl|⟨d,h1,rfl⟩
 ·exact hx
 ·obtain⟨h2,rfl⟩:=aQ.to_S x v F (D1 x d h1) hx
  unfold aQ;exact⟨rfl,ah.toDV x v d h2 h1⟩
def Sa (x y:SV):Prop:=vt x y\/(x= .nils/\∃ e ms,y= .own (.sl e ms) (.slice []))
theorem MV {x y:SV} (h:Sa x y) (hx:aQ w M κ x v F):aQ w M κ y v F:=by
 rcases h with h|⟨rfl,e,ms,rfl⟩
 ·exact Lg h hx
 ·simp only[aQ,ah] at hx
  obtain⟨rfl,rfl⟩:=hx
  unfold aQ eR
  exact⟨[],[],[],rfl,World.ownsRow_nil _ _ _ _,by simp,by simp,⟨rfl,rfl⟩,rfl⟩
inductive bw:List SV->List SV->Prop
 |nil:bw [] []
 |cons {x y:SV} {xs ys:List SV} (h:Sa x y) (hs:bw xs ys):bw (x::xs) (y::ys)
theorem bw.consS {x y:SV} (h:vt x y) (hs:bw xs ys):bw (x::xs) (y::ys):= .cons (.inl h) hs
theorem bw.rfl:∀ {l:List SV},bw l l
 |[]=> .nil
 |_::_=> .consS (.inl _root_.rfl) bw.rfl
theorem bw.append {a b c d:List SV} (h:bw a b) (k:bw c d):bw (a++c) (b++d):=by
 induction h with
 |nil=>exact k
 |cons h _ ih=>exact .cons h ih
theorem bw.length {a b:List SV} (h:bw a b):b.length=a.length:=by
 induction h with
 |nil=>exact _root_.rfl
 |cons _ _ ih=>simp[ih]
theorem Cd (h:bw xs ys):∀ {vs:List Value} {F:List Nat},ar w M κ xs vs F->ar w M κ ys vs F:=by
 induction h with
 |nil=>intro vs F h;exact h
 |cons h _ ih=>
  intro vs F hr
  unfold ar at hr⊢
  obtain⟨u,us,z,I,h1,h2,E,h4⟩:=hr
  exact⟨u,us,z,I,h1,h2,MV h E,ih h4⟩
inductive iv:List (List SV)->List (List SV)->Prop
 |nil:iv [] []
 |cons {x y:List SV} {xs ys:List (List SV)} (h:bw x y) (hs:iv xs ys):iv (x::xs) (y::ys)
theorem iv.rfl:∀ {l:List (List SV)},iv l l
 |[]=> .nil
 |_::_=> .cons bw.rfl iv.rfl
theorem iv.flat {a:List (List SV)} (h:iv a b):bw a.flatten b.flatten/\b.length=a.length/\∀ sz,(∀ r∈a,r.length=sz)->∀ r∈b,r.length=sz:=by
 induction h with
 |nil=>exact⟨.nil,_root_.rfl,fun _ h=>h⟩
 |cons h _ ih=>
  obtain⟨h1,h2,E⟩:=ih
  refine⟨by simp only[TB];exact h.append h1,by simp[h2],fun sz hs r hr=> ?_⟩
  rcases S9.1 hr with rfl|hr
  ·rw[h.length];exact hs _ oS
  ·exact E sz (fun r hr=>hs r (by simp[hr])) r hr
def Co:Ch->Ch->Prop
 | .vec e sz rows,c=>∃ f,c= .vec e sz f/\iv rows f
 | .box cs,c=>∃ V,c= .box V/\bw cs V
 |a,b=>a=b
theorem be:∀ {a b:Ch},a=b->Co a b
 | .vec _ _ _,_,h=>⟨_,h.symm,iv.rfl⟩
 | .box _,_,h=>⟨_,h.symm,bw.rfl⟩
 | .dead,_,h=>h
 | .map _ _,_,h=>h
 | .bld _ _ _,_,h=>h
theorem b7 {a a' b:Ch} (h1:a=a') (h2:Co a' b):Co a b:=h1▸h2
theorem jV {a:List (List SV)} (h:iv a b):Co (.vec e sz a) (.vec e sz b):=⟨b,rfl,h⟩
theorem H7 {a b:List SV} (h:bw a b):Co (.box a) (.box b):=⟨b,rfl,h⟩
theorem MW:∀ {a b:Ch},Co a b->kK w M κ id a F->kK w M κ id b F
 | .vec e sz rows,b,h,hr=>by
  obtain⟨f,rfl,h⟩:=h
  obtain⟨h1,h2,E⟩:=h.flat
  obtain⟨xs,G,k1,k2,k3,k4,k5⟩:=hr
  exact⟨xs,G,by rw[h2];exact k1,k2,E _ k3,Cd h1 k4,k5⟩
 | .box cs,b,h,hr=>by
  obtain⟨V,rfl,h⟩:=h
  obtain⟨b,T,vs,G,k1,k2,k3,k4,k5⟩:=hr
  exact⟨b,T,vs,G,k1,k2,k3,Cd h k4,k5⟩
 | .dead,b,h,hr=>by cases h;exact hr
 | .map _ _,b,h,hr=>by cases h;exact hr
 | .bld _ _ _,b,h,hr=>by cases h;exact hr
def FK (σ:St):List (Nat×Ch)->Prop
 |[]=>True
 |(i,v)::l=>Co (σ.h i) v/\FK σ l
theorem ax:FK σ []:=trivial
theorem a1 {v:Ch} {l:List (Nat×Ch)} (h1:Co (h i) v) (h2:FK ⟨s,h⟩ l):FK ⟨s,h⟩ ((i,v)::l):=⟨h1,h2⟩
theorem xd {X:St} (hs:∀ i,vt (σ.s i) (X.s i)) (hh:∀ i,Co (σ.h i) (X.h i)):cS σ X:=by
 intro c κ φ a w hr
 refine⟨κ,φ, ?_⟩
 exact{hr with
  slots:=fun i hi=>Ab (hs i) (hr.slots i hi)
  ghost:=fun i v hv=>Ab (hs _) (hr.ghost i v hv)
  chunks:=fun id=>MW (hh id) (hr.chunks id)}
open Classical in
theorem a7 {l:List (Nat×SV)} {hl:List (Nat×Ch)} (hs:FJ σ l) (hh:FK σ hl):cS σ (st l hl):=by
 have hk:∀ {hl:List (Nat×Ch)},FK σ hl->∀ i,lh hl i= .dead\/Co (σ.h i) (lh hl i):=by
  intro hl
  induction hl with
  |nil=>intro _ i;exact .inl rfl
  |cons p hl ih=>
   obtain⟨j,v⟩:=p
   intro hk i
   simp only[lh]
   by_cases V:i=j
   ·subst V;simp only[T6];exact .inr hk.1
   ·simp only[V,Tv];exact ih hk.2 i
 have h1:cS σ ⟨fun i=>if lk l i= .d .any then σ.s i else lk l i,fun i=>if lh hl i= .dead then σ.h i else lh hl i⟩:=xd (fun i=>by
  by_cases hi:lk l i= .d .any
  ·simp only[hi,T6];exact .inl rfl
  ·simp only[hi,Tv]
   rcases H6 hs i with h|h
   ·exact absurd h hi
   ·exact h) (fun i=>by
  by_cases hi:lh hl i= .dead
  ·simp only[hi,T6];exact be rfl
  ·simp only[hi,Tv]
   rcases hk hh i with h|h
   ·exact absurd h hi
   ·exact h)
 refine h1.trans (xa (fun i=> ?_) (fun i=> ?_))
 ·by_cases hi:lk l i= .d .any
  ·exact .inr hi
  ·refine .inl ?_;simp only[hi,Tv]
 ·by_cases hi:lh hl i= .dead
  ·exact .inr hi
  ·refine .inl ?_;simp only[hi,Tv]
section
variable {α:Type} {H:α->List DV}
theorem c3 {l l':List (List DV)} (h:l=l'):DV.slice l=DV.slice l':=by rw[h]
theorem c4:([]:List (List DV))=([]:List α).map H:=rfl
theorem eT {r:List DV} {rs:List (List DV)} {a:α} {l:List α} (h1:r=H a) (h2:rs=l.map H):r::rs=(a::l).map H:=by rw[h1,h2];rfl
theorem uM (id:Nat) (o:DV) (l:List α):jG id o (bG H l)=bG H l:=Gw id o _
theorem Lh (l:List α):SV.frzR (bG H l)=some (l.map H):=Gx _
theorem xe (l:List α):(bG H l).length=l.length:=by simp[bG]
theorem FL {a b:List DV} (h:a=b):DV.tup a=DV.tup b:=by rw[h]
theorem sg {a b:List DV} (h:a=b):DV.agg a=DV.agg b:=by rw[h]
theorem fk {a b:DV} {l l':List DV} (h:a=b) (k:l=l'):a::l=b::l':=by rw[h,k]
theorem GS (n:Int) (h:0<=n/\n<256):DV.int .u8 n=DV.int .u8 ((UInt8.ofNat n.toNat).toNat:Int):=by
 rw[UInt8.toNat_ofNat_of_lt' (by show n.toNat<256;omega)]
 congr 1;omega
theorem D2:iv [] (bG H ([]:List α)):= .nil
theorem ml {l:List α}:iv (bG H l) (bG H l):=iv.rfl
end
section
variable {P:Program} {s:Nat->SV} {h:Nat->Ch} {K:St->Prop} {sos:List SO} {α:Type} {H:α->List DV}
theorem D3 (I:∀ e,(H e).length=sz) (l:List α):∀ r∈bG H l,r.length=sz:=by
 intro r hr
 simp only[bG,UD,Tu,Function.comp] at hr
 obtain⟨a,_,rfl⟩:=hr
 simp[dR,I]
theorem Ce (l l':List α):bG H l++bG H l'=bG H (l++l'):=by simp[bG]
theorem FM {v:SV} (hv:vt (s n) v):cS ⟨s,h⟩ ⟨aD s n v,h⟩:=MU rfl fun i=>by
 by_cases hi:i=n
 ·subst hi;simp only[aD,T6];exact hv
 ·simp only[aD,hi,Tv];exact .inl rfl
theorem si {l l2:List α} {m:Nat} {kk:Option R} (Z:iZ (sf (l.length+l2.length)) kk=some r) (hx:s m= .vec id) (hh:h id= .vec e sz (bG H l)) (hy:s n=Y) (hd:Y.toDV=some d) (J:d= .slice (l2.map H)) (A:m≠n) (I:∀ a,(H a).length=sz) (hk:kk=some r->a6 P K sos ⟨aD (eC id .any (aD s n (.d (.slice (l2.map H))))) dst (.vec id),aD (hT id .any h) id (.vec e sz (bG H (l++l2)))⟩):a6 P K (.w dst (.app e sz (.t m) (.t n))::sos) ⟨s,h⟩:=by
 cases hl:sf (l.length+l2.length) with
 |none=>rw[hl] at Z;cases Z
 |some u=>
  rw[hl] at Z
  have h8:=Bg.1 hl
  refine Rj (FM (n:=n) (v:= .d (.slice (l2.map H))) (by rw[hy];exact GR (J▸hd))) (p:=e=e/\sz=sz/\(∀ r∈(l2.map H).map dR,r.length=sz)/\(bG H l).length+((l2.map H).map dR).length<=137438953472) ?_ ⟨rfl,rfl,D3 I l2,by simp only[xe,TO];exact h8⟩ (hk Z)
  simp only[wr,ev,aD,A,Tv,T6,hx,yR,SV.toDV,hh,cZ,St.swap]
  rw[show(l2.map H).map dR=bG H l2 from rfl,Ce,uM]
theorem Qv {l2:List α} {m:Nat} {kk:Option R} (Z:iZ (sf l2.length) kk=some r) (hx:s m= .nils) (hy:s n=Y) (hd:Y.toDV=some d) (J:d= .slice (l2.map H)) (A:m≠n) (I:∀ a,(H a).length=sz) (hk:kk=some r->a6 P K sos ⟨aD (eC dst .any (aD s n (.d (.slice (l2.map H))))) dst (.vec dst),aD (hT dst .any h) dst (.vec e sz (bG H l2))⟩):a6 P K (.w dst (.app e sz (.t m) (.t n))::sos) ⟨s,h⟩:=by
 cases hl:sf l2.length with
 |none=>rw[hl] at Z;cases Z
 |some u=>
  rw[hl] at Z
  have h8:=Bg.1 hl
  refine Rj (FM (n:=n) (v:= .d (.slice (l2.map H))) (by rw[hy];exact GR (J▸hd))) (p:=(∀ r∈(l2.map H).map dR,r.length=sz)/\((l2.map H).map dR).length<=137438953472) ?_ ⟨D3 I l2,by simp only[TO];exact h8⟩ (hk Z)
  simp only[wr,ev,aD,A,Tv,T6,hx,yR,SV.toDV,cZ,St.swap]
  rw[show(l2.map H).map dR=bG H l2 from rfl,uM]
theorem MY {l:List α} {a:α} {f:α->α} {v:SX} (hx:ev s p= .vref id sz i off) (hh:h id= .vec e sz (bG H l)) (hv:(ev s v).cells?=some vs) (hn:(vs.length==n)=true) (hc:∀ a,splice (dR (H a)) off vs=dR (H (f a))) (I:∀ a,(H a).length=sz) (ho:(decide (off+n<=sz))=true) (ha:l[i]?=some a) (dst:Nat):
  ∃ q,wr ⟨s,h⟩ dst (.st n p v)=some (q,⟨s,aD h id (.vec e sz (bG H (l.set i (f a))))⟩)/\q:=by
 have b:(bG H l)[i]?=some (dR (H a)):=by simp[bG,Tk,ha]
 refine⟨sz=sz/\vs.length=n/\off+n<=(dR (H a)).length, ?_,rfl,by simpa using hn,by simpa[dR,I] using ho⟩
 simp only[wr,hx,hh,hv,b,hc a]
 congr 2
 simp[bG,List.map_set]
theorem Rw {l:List α} {f:α->α} {cs:α->List SV} {v:SX} {kk:α->Option R} (Z:(l[i]?).bind kk=some r) (hx:ev s p= .vref id sz i off) (hh:h id= .vec e sz (bG H l)) (hv:(ev s v).cells?=some vs) (hn:(vs.length==n)=true) (I:∀ a,(H a).length=sz) (ho:(decide (off+n<=sz))=true) (r3:∀ a,splice (dR (H a)) off vs=cs a) (b:∀ a,cs a=dR (H (f a))) (hk:∀ a,kk a=some r->a6 P K sos ⟨s,aD h id (.vec e sz (bG H (l.set i (f a))))⟩):a6 P K (.w dst (.st n p v)::sos) ⟨s,h⟩:=by
 cases ha:l[i]? with
 |none=>rw[ha] at Z;cases Z
 |some a=>
  rw[ha] at Z
  obtain⟨q,h1,h2⟩:=MY hx hh hv hn (fun a=>(r3 a).trans (b a)) I ho ha dst
  exact wi h1 h2 (hk a Z)
theorem Jm {l:List α} {f:α->α} {cs:α->List SV} {v:SX} {late:List (Nat×Nat×wh)} {kk:α->Option R} (Z:(l[i]?).bind kk=some r) (hx:ev s p= .vref id sz i off) (hh:h id= .vec e sz (bG H l)) (hv:(ev s v).cells?=some vs) (hn:(vs.length==n)=true) (I:∀ a,(H a).length=sz) (ho:(decide (off+n<=sz))=true) (r3:∀ a,splice (dR (H a)) off vs=cs a) (b:∀ a,cs a=dR (H (f a))) (hl:∀ a,AL ⟨s,aD h id (.vec e sz (bG H (l.set i (f a))))⟩ late) (hk:∀ a,kk a=some r->a6 P K sos ⟨s,aD h id (.vec e sz (bG H (l.set i (f a))))⟩):a6 P K (.x dst (.st n p v) late::sos) ⟨s,h⟩:=by
 cases ha:l[i]? with
 |none=>rw[ha] at Z;cases Z
 |some a=>
  rw[ha] at Z
  obtain⟨q,h1,h2⟩:=MY hx hh hv hn (fun a=>(r3 a).trans (b a)) I ho ha dst
  exact N4 h1 h2 (hl a) (hk a Z)
theorem GT {l:List α} {H:α->List DV} {x:SX} {kk:α->Option R} (Z:(l[i]?).bind kk=some r) (hx:ev s x= .vref id sz i 0) (hh:h id= .vec e sz (bG H l)) (I:∀ a,(H a).length=n) (hk:∀ a,kk a=some r->a6 P K sos ⟨aD s dst (.agg (dR (H a))),h⟩):a6 P K (.r dst (.ldA n x)::sos) ⟨s,h⟩:=by
 cases J:l[i]? with
 |none=>rw[J] at Z;cases Z
 |some a=>
  rw[J] at Z
  have hn:SV.noOwns (dR (H a))=true:=by
   have:∀ l:List DV,SV.noOwns (dR l)=true:=fun l=>by induction l with|nil=>rfl|cons d l ih=>simpa[dR,SV.noOwns,SV.noOwn] using ih
   exact this _
  have Y:(dR (H a)).take n=dR (H a):=Tr (by simp[dR,I])
  refine fi (p:=sz=sz/\0+n<=(dR (H a)).length) (v:= .agg (dR (H a))) ?_ ⟨rfl,by simp[dR,I]⟩ (hk a Z)
  simp only[rd,hx,hh,bG,Tk,J,TL,Vb,Y,hn,T6]
end
attribute [push_cast] MR uL uM Lh xe wB EU bS Cn fy TO
