/-
  My text.
-/
import Derived.Test.YtgmnipfafmphaaaGreatDoorSYEngY
namespace Go.Proofs.YtgmnipfafmphaaaGreatDoor
set_option linter.unusedSimpArgs false
set_option linter.unusedVariables false
open Go.RowKit
variable {C:List SV} {K:St->Prop} {N:Nat} {P:Program} {Q:AX->St->Prop} {R:List (List SV)} {Y:Type} {args:List SX} {as b:List DV} {cells cs:List SV} {dst e e' f:Nat} {h:Nat->Ch} {i id:Nat} {ids:List Nat} {k:IntKind} {late:List (Nat×Nat×oX)} {ms:List bj} {n n':Nat} {o:List (List SV)} {off:Nat} {outs:List SV} {qs:List RV} {res:SV} {rows:List (List SV)} {rs:List SV} {s:Nat->SV} {sos:List SO} {sz:Nat} {v:SX} {v0:SV} {xs:List SV} {y:SX} {ys:List (List SV)} {z:SX} {α:Type} {σ:St} {H:α->List DV} {a:Option Y} {l:List α}
section
variable {P:Program} {s:Nat->SV} {h:Nat->Ch} {K:St->Prop} {sos:List SO} {α:Type} {H:α->List DV}
theorem xM {l:List α} (F:∀ a,(H a).length=n):takes σ [] (some dst) (.own (.sl e (List.replicate n .sh)) (.slice (l.map H)))=some ⟨am (bl dst .any σ.s) dst (.vec dst),am (bG dst .any σ.h) dst (.vec e n (aM H l))⟩:=by
 simp only[takes,SV.nOwn,SV.own1,cf,Tn,rm F,SV.plug,iT]
 rfl
theorem Sb {R:Type} {r:R} {k:Y->Option R} {l:Y->List α} (Z:a.bind k=some r) (hx:SV.toDVs (args.map (ev s))=some b) (hs:∀ y,a=some y->bu P f (as.map .d) (.own (.sl e (List.replicate n .sh)) (.slice ((l y).map H))) (as.map .d)) (he:b=as) (F:∀ a,(H a).length=n) (hk:∀ y,k y=some r->aD P K sos ⟨am (bl dst .any s) dst (.vec dst),am (bG dst .any h) dst (.vec e n (aM H (l y)))⟩):aD P K (.p (some dst) (.f f) args::sos) ⟨s,h⟩:=by
 subst he
 cases hy:a with
 |none=>rw[hy] at Z;cases Z
 |some y=>
  rw[hy] at Z
  exact Ra (j:=⟨s,h⟩) (L:=[]) (bm.refl _) (hs y hy) rfl (nU hx) (xM F) (hk y Z)
theorem Eu {R:Type} {r:R} {l:List α} {n:Int} {x i:SX} {kk:α->Option R} (Z:(b4 l n).bind kk=some r) (hx:ev s x= .d (.slice (l.map H))) (hi:ev s i= .d (.int k n)) (F:∀ e,(H e).length=sz) (hk:∀ e,b4 l n=some e->kk e=some r->aD P K sos ⟨am s dst (.d (.ptr (H e))),h⟩):aD P K (.r dst (.idx sz x i)::sos) ⟨s,h⟩:=by
 cases he:b4 l n with
 |none=>rw[he] at Z;cases Z
 |some e=>
  rw[he] at Z
  obtain⟨h1,h2⟩:=En (h:=h) hx hi F he
  exact iC h1 h2 (hk e he Z)
theorem t7 {l:List α} {a t:Nat} {n:Int} {x i:SX} {e:α} (hx:ev s x= .d (.slice (l.map H))) (hi:ev s i= .d (.int k n)) (he:b4 l n=some e) (F:∀ e,(H e).length=sz) (ht:s t= .d (.ptr (H e))) (hl:oQ ⟨s,h⟩ late):oQ ⟨s,h⟩ ((a,t,.idx sz x i)::late):=by
 obtain⟨h1,h2⟩:=En (h:=h) hx hi F he
 exact cn h1 h2 ht.symm hl
end
def au (ms:List bj) (H:α->List DV) (l:List α):List (List SV):=(l.map H).map (bi ms)
section
variable {α:Type} {ms:List bj} {H:α->List DV} {l:List α}
theorem cU:(au ms H l).length=l.length:=by simp[au]
theorem ro {l2:List α}:au ms H (l++l2)=au ms H l++au ms H l2:=by simp[au]
theorem t8 {x:α} (h:l[i]?=some x):(au ms H l)[i]?=some (bi ms (H x)):=by simp[au,TC,h]
theorem Dl {x:α}:au ms H (l.set i x)=(au ms H l).set i (bi ms (H x)):=by simp[au,List.map_set]
theorem oi (F:∀ a,(H a).length=n):au (List.replicate n .sh) H l=aM H l:=rm F l
theorem gl (id:Nat) (o:DV):∀ (l:List α),c0 id o (au ms H l)=au ms H l
 |[]=>rfl
 |x::l=>by
  have ih:=gl id o l
  unfold au at ih⊢
  simp only[Tc,c0,tX,ih]
theorem F0:∀ {ms:List bj} {J:List DV} {off:Nat} {m:bj} {d:DV},ms[off]?=some m->(bi ms J).set off (sJ m d)=bi ms (J.set off d)
 |[],J,off,m,d,h=>by simp at h
 |m'::ms,[],off,m,d,h=>by simp[bi]
 |m'::ms,c::J,0,m,d,h=>by simp at h;subst h;simp[bi]
 |m'::ms,c::J,off+1,m,d,h=>by
  have:=F0 (ms:=ms) (J:=J) (off:=off) (m:=m) (d:=d) (by simpa using h)
  simp only[xL,List.set_cons_succ,this]
theorem F1:∀ {ms:List bj} {J:List DV} {off:Nat} {m:bj} {d:DV},ms[off]?=some m->J[off]?=some d->(bi ms J)[off]?=some (sJ m d)
 |[],J,off,m,d,h,_=>by simp at h
 |m'::ms,[],off,m,d,_,h=>by simp at h
 |m'::ms,c::J,0,m,d,h,h2=>by simp at h h2;subst h h2;rfl
 |m'::ms,c::J,off+1,m,d,h,h2=>by
  rw[xL,TO]
  exact F1 (by simpa using h) (by simpa using h2)
end
section
variable {P:Program} {s:Nat->SV} {h:Nat->Ch} {K:St->Prop} {sos:List SO} {α β:Type} {H:α->List DV} {A:β->List DV} {ms ms':List bj} {l:List α} {l':List β} {x:α}
theorem xN (hh:h id= .vec e sz (au ms H l)) (hx:l[i]?=some x) (Z:ms[off]?=some (.sl e' ms')) (hd:(H x)[off]?=some (.slice (l'.map A))) (U:id≠f):
  bm ⟨s,h⟩ ⟨bl f .any s,am (am (bG f .any h) id (.vec e sz ((au ms H l).set i ((bi ms (H x)).set off (.vec f))))) f (.vec e' ms'.length (au ms' A l'))⟩:=by
 refine sG (σ:=⟨s,h⟩) (p:= .v i off) U ?_
 have hg:jZ (h id) (.v i off)=some (.own (.sl e' ms') (.slice (l'.map A))):=by
  simp only[hh,jZ,t8 hx]
  exact F1 Z hd
 simp only[rb,hg,cf]
 simp only[hh,jY,gl,sK,t8 hx]
 rfl
theorem Ba {x':α} (hh:h id= .vec e sz ((au ms H l).set i ((bi ms (H x)).set off (.vec f)))) (hx:l[i]?=some x) (hj:h f= .vec e' n o) (D:bL o (au ms' A l')) (hn:ms'.length=n) (Z:ms[off]?=some (.sl e' ms')) (F:∀ a,(A a).length=ms'.length) (X:off<(H x).length) (hy:H x'=(H x).set off (.slice (l'.map A))) (U:id≠f):
  bm ⟨s,h⟩ ⟨bl f .any s,am (am (bG f .any h) id (.vec e sz (au ms H (l.set i x')))) f .dead⟩:=by
 subst hn
 have s7:i<l.length:=(SY.1 hx).1
 have I:off<(bi ms (H x)).length:=by
  unfold bi
  have:=(SY.1 Z).1
  simp only[List.length_zipWith];omega
 have h1:bm ⟨s,h⟩ ⟨s,am h f (.vec e' ms'.length (au ms' A l'))⟩:=mH (fun _=> .inl rfl) fun j=>by
  by_cases r3:j=f
  ·subst r3;simp only[am,TB,hj];exact dG D
  ·simp only[am,r3,Tq];exact aN rfl
 have R:((au ms H l).set i ((bi ms (H x)).set off (.vec f)))[i]?=some ((bi ms (H x)).set off (.vec f)):=Uc (by rw[cU];exact s7)
 have h2:=nO (σ:=⟨s,am h f (.vec e' ms'.length (au ms' A l'))⟩) (id:=id) (g:=f) (p:= .v i off) (m:= .sl e' ms') (d:= .slice (l'.map A)) (ch:= .vec e' ms'.length (au ms' A l')) (mk:= .vec) U
  (by simp only[cf];rfl) (by intro r D;obtain⟨a,_,rfl⟩:=Tp.1 D;exact F a) (by simp only[am,U,Tq,hh,jZ,R];exact Uc I) (by simp only[am,TB])
 have e0:c0 f .any ((au ms H l).set i ((bi ms (H x)).set off (.vec f)))=(au ms H l).set i ((bi ms (H x)).set off (.d .any)):=by
  rw[sI,gl]
  congr 1
  have:=Au f .any (.vec f) (bi ms (H x)) off
  rw[<-this,tX]
  simp only[c8,TB]
 have e1:iu ⟨s,am h f (.vec e' ms'.length (au ms' A l'))⟩ id (.v i off) f (.sl e' ms') (.slice (l'.map A))=⟨bl f .any s,am (am (bG f .any h) id (.vec e sz (au ms H (l.set i x')))) f .dead⟩:=by
  simp only[iu,am,U,Tq,hh,jY,e0]
  congr 1
  have k:((au ms H l).set i ((bi ms (H x)).set off (.d .any)))[i]?=some ((bi ms (H x)).set off (.d .any)):=Uc (by rw[cU];exact s7)
  have e3:((bi ms (H x)).set off (.d .any)).set off (.own (.sl e' ms') (.slice (l'.map A)))=bi ms (H x'):=by
   rw[Vf,hy]
   exact F0 Z
  funext j
  by_cases c:j=f
  ·subst c;simp only[am,TB]
  ·by_cases r4:j=id
   ·subst r4
    simp only[am,c,Tq,TB,sK,k,e3,Vf,Dl]
   ·simp only[am,c,r4,Tq,bG]
 rw[e1] at h2
 exact h1.trans h2
theorem zB {R:Type} {r:R} {n:Int} {i:SX} {kk:α->Option R} (Z:(b4 l n).bind kk=some r) (hx:ev s y= .vec id) (hh:h id= .vec e sz rows) (hl:rows.length=l.length) (hi:ev s i= .d (.int k n)) (hk:∀ a,b4 l n=some a->kk a=some r->aD P K sos ⟨am s dst (.vref id sz n.toNat 0),h⟩):aD P K (.r dst (.idx sz y i)::sos) ⟨s,h⟩:=by
 cases he:b4 l n with
 |none=>rw[he] at Z;cases Z
 |some a=>
  rw[he] at Z
  have g:=he
  unfold b4 at g
  split at g
  ·rename_i h0
   obtain⟨X,_⟩:=SY.1 g
   refine iC (p:=0<=n/\n<rows.length/\sz=sz) (v:= .vref id sz n.toNat 0) ?_ ⟨h0,by omega,rfl⟩ (hk a he Z)
   simp only[rd,hi,hx,hh]
  ·cases g
end
section
variable {P:Program} {B:SC} {Q:AX->St->Prop} {s:Nat->SV} {h:Nat->Ch} {K:St->Prop} {sos:List SO} {α β:Type} {H:α->List DV} {A:β->List DV} {ms ms':List bj} {l:List α}
theorem N8 {R:Type} {r:R} (f d:Nat) {n:Int} {kk:α->Option R} {fld:α->List β} {cells:α->List SV} (Z:(b4 l n).bind kk=some r) (hi:s d= .d (.int k n)) (hh:h id= .vec e sz (au ms H l)) (j:ms[off]?=some (.sl e' ms')) (V:ms'=List.replicate n' .sh) (hd:∀ x,(H x)[off]?=some (.slice ((fld x).map A))) (hc:∀ x,(bi ms (H x)).set off (.vec f)=cells x) (U:id≠f) (F:∀ b,(A b).length=n') (hk:∀ x,b4 l n=some x->kk x=some r->AW P B Q ⟨bl f .any s,am (am (bG f .any h) id (.vec e sz ((au ms H l).set n.toNat (cells x)))) f (.vec e' n' (aM A (fld x)))⟩):AW P B Q ⟨s,h⟩:=by
 subst V
 cases he:b4 l n with
 |none=>rw[he] at Z;cases Z
 |some x=>
  rw[he] at Z
  have g:=he
  unfold b4 at g
  split at g
  ·have h1:=xN (s:=s) (f:=f) hh g j (hd x) U
   rw[hc x,oi F,Tn] at h1
   exact pO h1 (hk x he Z)
  ·cases g
theorem Bb {x x':α} {l':List β} (hh:h id= .vec e sz ((au ms H l).set i cells)) (hx:l[i]?=some x) (hc:(bi ms (H x)).set off (.vec f)=cells) (hj:h f= .vec e' n' o) (D:bL o (aM A l')) (j:ms[off]?=some (.sl e' (List.replicate n' .sh))) (F:∀ b,(A b).length=n') (X:off<(H x).length) (hy:H x'=(H x).set off (.slice (l'.map A))) (U:id≠f):
  bm ⟨s,h⟩ ⟨bl f .any s,am (am (bG f .any h) id (.vec e sz (au ms H (l.set i x')))) f .dead⟩:=by
 subst hc
 exact Ba hh hx hj (by rw[oi F];exact D) oS j (by simpa using F) X hy U
theorem LZ {x x':α} {l':List β} (hj:h f= .vec e' n' o) (hh:h id= .vec e sz ((au ms H l).set i cells)) (hx:l[i]?=some x) (hc:(bi ms (H x)).set off (.vec f)=cells) (D:bL o (aM A l')) (j:ms[off]?=some (.sl e' ms')) (V:ms'=List.replicate n' .sh) (F:∀ b,(A b).length=n') (X:off<(H x).length) (hy:H x'=(H x).set off (.slice (l'.map A))) (U:id≠f) (hk:AW P B Q ⟨bl f .any s,am (am (bG f .any h) id (.vec e sz (au ms H (l.set i x')))) f .dead⟩):AW P B Q ⟨s,h⟩:=pO (Bb hh hx hc hj D (by rw[<-V];exact j) F X hy U) hk
theorem yK {v:SV} (ho:off<cs.length):splice cs off [v]=cs.set off v:=by
 unfold splice
 refine List.ext_getElem? fun j=> ?_
 simp only[ST,S3,Tx,S6,List.getElem?_append,Th,T2,Ub,List.getElem?_set]
 have E:min off cs.length=off:=by omega
 by_cases h1:j<off
 ·have:¬ off=j:=by omega
  simp[this,h1]
  omega
 ·by_cases h2:off=j
  ·subst h2
   simp[E,ho]
  ·have h4:¬ j - off<1:=by omega
   simp only[E,h1,Tq,h2,h4,Tw]
   have h5:off+1+(j - off - 1)=j:=by omega
   simp only[h5]
theorem Qj {d:Nat} (Y:ev s y= .vref id sz i off) (hv:(ev s v).cells?=some [v0]) (hh:h id= .vec e sz (R.set i cells)) (hi:i<R.length) (ho:off<cells.length):
  wr ⟨s,h⟩ d (.st 1 y v)=some (sz=sz/\[v0].length=1/\off+1<=cells.length,⟨s,am h id (.vec e sz (R.set i (cells.set off v0)))⟩):=by
 have hg:(R.set i cells)[i]?=some cells:=Uc hi
 simp only[wr,Y,hv,hh,hg,yK ho,Vf]
theorem L0 {a:List SV} (Y:ev s y= .vref id sz i off) (hv:(ev s v).cells?=some [v0]) (hh:h id= .vec e sz (R.set i cells)) (hi:i<R.length) (ho:off<cells.length) (hs:cells.set off v0=a) (hl:oQ ⟨s,am h id (.vec e sz (R.set i a))⟩ late) (hk:aD P K sos ⟨s,am h id (.vec e sz (R.set i a))⟩):aD P K (.x 0 (.st 1 y v) late::sos) ⟨s,h⟩:=by
 subst hs
 exact B2 (Qj Y hv hh hi ho) ⟨rfl,rfl,by omega⟩ hl hk
end
section
variable {P:Program} {s:Nat->SV} {h:Nat->Ch} {K:St->Prop} {sos:List SO} {α β:Type} {H:α->List DV} {ms:List bj} {l l2:List α} {x:α}
theorem m9 {n:Int} (h:b4 l n=some x):l[n.toNat]?=some x:=by
 unfold b4 at h;split at h
 ·exact h
 ·cases h
theorem iM:bL (au ms H l) (au ms H l):=bL.rfl
theorem Ev:bL [] (au ms H ([]:List α)):=bL.rfl
theorem Ho {a b:List (List SV)} (h1:bL a (au ms H l)) (h2:bL b (au ms H l2)):bL (a++b) (au ms H (l++l2)):=by rw[ro];exact h1.append h2
theorem Hp {r:List SV} (h1:ag r (bi ms (H x))):bL [r] (au ms H [x]):= .cons h1 .nil
theorem Qk {H:β->List DV}:ag [.nils] (bi [.sl e ms] (fA H ([]:List β))):= .cons (.inr ⟨rfl,_,_,rfl⟩) ag.nil
theorem Ip {R:Type} {r:R} {kk:Option R} {f:List (List SV)} {k:Nat} (Z:mh (lG (l.length+k)) kk=some r) (hx:ev s y= .vec id) (hh:h id= .vec e sz (au ms H l)) (hy:pM (ev s z)=some f) (hl:f.length=k) (W:∀ r∈f,r.length=sz) (hk:kk=some r->aD P K sos ⟨am (bl id .any s) dst (.vec id),am (bG id .any h) id (.vec e sz (au ms H l++c0 id .any f))⟩):aD P K (.w dst (.app e sz y z)::sos) ⟨s,h⟩:=by
 cases g:lG (l.length+k) with
 |none=>rw[g] at Z;cases Z
 |some u=>
  rw[g] at Z
  have I:=mG.1 g
  refine uB (p:=e=e/\sz=sz/\(∀ r∈f,r.length=sz)/\(au ms H l).length+f.length<=137438953472) ?_ ⟨rfl,rfl,W,by rw[cU,hl];exact I⟩ (hk Z)
  have e1:c0 id .any (au ms H l++f)=au ms H l++c0 id .any f:=by rw[mY,gl]
  simp only[wr,hx,hy,hh,cy,St.swap,e1]
theorem Iq {c:SV} (Y:ev s y= .vref id sz i off) (hh:h id= .vec e sz (R.set i cells)) (hi:i<R.length) (hc:cells[off]?=some c) (r1:c.noOwn=true) (hk:aD P K sos ⟨am s dst c,h⟩):aD P K (.r dst (.ld1 y)::sos) ⟨s,h⟩:=by
 have hg:(R.set i cells)[i]?=some cells:=Uc hi
 refine iC (p:=sz=sz) (v:=c) ?_ rfl hk
 simp only[rd,Y,hh,hg,hc,r1,TB]
theorem o4 {n:Int} (h:b4 l n=some x):n.toNat<l.length:=(SY.1 (m9 h)).1
theorem Bc (Y:bj.plains ms=true) (hl:∀ x,(H x).length=ms.length):SV.frzR (au ms H l)=some (l.map H):=CX Y (fun r D=>by obtain⟨x,_,rfl⟩:=Tp.1 D;exact hl x)
end
theorem L1 {R:Type} {r:R} {kk:Option R} {f:List (List SV)} {k:Nat} (Z:mh (lG (l.length+k)) kk=some r) (hx:ev s y= .vec id) (hh:h id= .vec e sz (au ms H l)) (hy:pM (ev s z)=some f) (hl:f.length=k) (W:∀ r∈f,r.length=sz) (a:oQ ⟨am (bl id .any s) dst (.vec id),am (bG id .any h) id (.vec e sz (au ms H l++c0 id .any f))⟩ late) (hk:kk=some r->aD P K sos ⟨am (bl id .any s) dst (.vec id),am (bG id .any h) id (.vec e sz (au ms H l++c0 id .any f))⟩):aD P K (.x dst (.app e sz y z) late::sos) ⟨s,h⟩:=by
 cases g:lG (l.length+k) with
 |none=>rw[g] at Z;cases Z
 |some u=>
  rw[g] at Z
  have I:=mG.1 g
  refine B2 (p:=e=e/\sz=sz/\(∀ r∈f,r.length=sz)/\(au ms H l).length+f.length<=137438953472) ?_ ⟨rfl,rfl,W,by rw[cU,hl];exact I⟩ a (hk Z)
  have e1:c0 id .any (au ms H l++f)=au ms H l++c0 id .any f:=by rw[mY,gl]
  simp only[wr,hx,hy,hh,cy,St.swap,e1]
theorem L2 {R:Type} {r:R} (Z:(none:Option R)=some r):yZ N n qs res outs .normal σ:=by cases Z
theorem F3 {β:Type} {H:β->List DV} {l:List (List β)} (Y:bj.plains ms=true):SV.frzR (au [.sl e ms] (fA H) l)=some (l.map (fA H)):=Bc (by simp only[bj.plains,bj.plain,Y,UX]) (fun _=>rfl)
theorem Ew {B:SC} (id:Nat) (ms:List bj) (H:α->List DV) (hh:h id= .vec e sz (rows++ys)) (D:bL (rows++ys) (au ms H l)) (hk:AW P B Q ⟨s,am h id (.vec e sz (au ms H l))⟩):AW P B Q ⟨s,h⟩:=by
 have h1:bm ⟨s,h⟩ ⟨s,am h id (.vec e sz (au ms H l))⟩:=mH (fun _=> .inl rfl) fun j=>by
  by_cases hj:j=id
  ·subst hj;simp only[am,TB,hh];exact dG D
  ·simp only[am,hj,Tq];exact aN rfl
 exact pO h1 hk
theorem p0 (id:Nat) (ms:List bj) (H:α->List DV) (hh:h id= .vec e sz (rows++ys)) (D:bL (rows++ys) (au ms H l)):bm ⟨s,h⟩ ⟨s,am h id (.vec e sz (au ms H l))⟩:=mH (fun _=> .inl rfl) fun j=>by
  by_cases hj:j=id
  ·subst hj;simp only[am,TB,hh];exact dG D
  ·simp only[am,hj,Tq];exact aN rfl
def N9 (N:Nat) (as:List DV):Nat->SV:=fun j=>if j<N then(match as[j]? with|some d=> .d d|none=> .d .any) else match as[j - N]? with|some d=> .d d|none=> .d .any
theorem Ex {h:Nat->Ch} {ys rs:List SV} {ids:List Nat} (D:lb h ys rs ids):∀ {gs:List SV} {as:List DV},SV.toDVs gs=some as->lb h (gs++ys) (as.map .d++rs) ids
 |[],as,hd=>by simp only[SV.toDVs,SN] at hd;subst hd;exact D
 |g::gs,as,hd=>by
  unfold SV.toDVs at hd
  split at hd
  ·rename_i d i h1 h2
   simp only[SN] at hd;subst hd
   exact .data h1 (Ex D h2)
  ·cases hd
theorem L3 {R:Type} {r r0:R} {q:RV} {H:R->List DV} {gs:List SV} {p:Nat->SV} {h1:Nat->Ch} (Z:some r0=some r) (h6:bm σ ⟨p,h1⟩) (hq:JF ⟨p,h1⟩ [q]=some [.agg cs]) (hg:gV N ⟨p,h1⟩ n=gs) (u4:SV.toDVs gs=some as) (D:lb h1 cs C ids) (hG:C=bi ms (H r0)):yZ N n [q] (.agg (bi ms (H r))) (as.map .d) .ret σ:=by
 cases Z
 subst hG
 refine⟨⟨p,h1⟩,h6,[.agg cs],[.agg (bi ms (H r))],ids,hq,rfl,rfl, ?_⟩
 rw[hg]
 refine Ex ?_ u4
 have:=lb.agg (h:=h1) D (fun i _=>T6) lb.nil
 simpa using this
theorem Ir (hh:h id= .vec e n (au ms H l)) (hn:ms.length=n) (F:∀ a,(H a).length=ms.length) (hi:id∉ids) (hl:lb h xs rs ids):lb h (.vec id::xs) (.own (.sl e ms) (.slice (l.map H))::rs) (id::ids):=by
 subst hn
 exact .own (ch:= .vec e ms.length (au ms H l)) (mk:= .vec) rfl (by intro r D;obtain⟨a,_,rfl⟩:=Tp.1 D;exact F a) hh hi hl
theorem yL {k:Nat} {fn:Func} {x:SC} (C:P.funcs[f]?=some fn) (o:fits P f fn x qs k=true) (F:fn.ntmps=N) (hk:as.length=k) (J:outs.length=k) (h:AW P x (yZ N k qs res outs) ⟨N9 N as,fun _=> .dead⟩):bu P f (as.map .d) res outs:=by
 subst F hk
 have I:(as.map SV.d).length=as.length:=by simp
 refine vn (x:=x) (qs:=qs) C (by rw[I];exact o) ?_ (by rw[I];exact J) ?_
 ·rw[Ti]
  intro y hy
  obtain⟨d,_,rfl⟩:=Tp.1 hy
  rfl
 ·rw[I]
  have e1:AD fn.ntmps (as.map .d)=N9 fn.ntmps as:=by
   funext j
   unfold AD N9
   by_cases X:j<fn.ntmps
   ·simp only[X,TB,TC]
    cases as[j]?<;>simp[uj]
   ·simp only[X,Tq,TC]
    cases as[j - fn.ntmps]?<;>simp[uj]
  have e2:Ce (as.map .d)=fun _=> .dead:=by
   funext j
   unfold Ce
   simp only[TC]
   cases as[j]?<;>simp[Cd]
  rw[e1,e2];exact h
section
variable {P:Program} {Q:AX->St->Prop} {B:SC} {s:Nat->SV} {h:Nat->Ch} {α:Type} {H:α->List DV}
theorem Hq {l:List α} (hh:h id= .box cs) (hc:cs[off]?=some (.own (.sl e ms) (.slice (l.map H)))) (U:id≠f) (hn:ms.length=n) (I:(cm f .any cs).set off (.vec f)=C):
  bm ⟨s,h⟩ ⟨bl f .any s,am (am (bG f .any h) id (.box C)) f (.vec e n (au ms H l))⟩:=by
 subst hn I
 refine sG (σ:=⟨s,h⟩) (p:= .b off) U ?_
 have hg:jZ (h id) (.b off)=some (.own (.sl e ms) (.slice (l.map H))):=by simp only[hh,jZ,hc]
 simp only[rb,hg,cf]
 simp only[hh,jY,sK]
 rfl
theorem f2 {l:List α} (hh:h id= .box cs) (hc:cs[off]?=some (.vec f)) (U:id≠f) (hj:h f= .vec e n rows) (D:bL rows (au ms H l)) (hn:ms.length=n) (F:∀ a,(H a).length=ms.length) (I:(cm f .any cs).set off (.own (.sl e ms) (.slice (l.map H)))=C):
  bm ⟨s,h⟩ ⟨bl f .any s,am (am (bG f .any h) id (.box C)) f .dead⟩:=by
 subst I hn
 have h1:bm ⟨s,h⟩ ⟨s,am h f (.vec e ms.length (au ms H l))⟩:=mH (fun _=> .inl rfl) fun i=>by
  by_cases hi:i=f
  ·subst hi;simp only[am,TB,hj];exact dG D
  ·simp only[am,hi,Tq];exact aN rfl
 have h2:=nO (σ:=⟨s,am h f (.vec e ms.length (au ms H l))⟩) (id:=id) (g:=f) (p:= .b off) (m:= .sl e ms) (d:= .slice (l.map H)) (ch:= .vec e ms.length (au ms H l)) (mk:= .vec) U
  rfl (by intro r D;obtain⟨a,_,rfl⟩:=Tp.1 D;exact F a) (by simp only[am,U,Tq,hh,jZ,hc]) (by simp only[am,TB])
 have e1:iu ⟨s,am h f (.vec e ms.length (au ms H l))⟩ id (.b off) f (.sl e ms) (.slice (l.map H))=⟨bl f .any s,am (am (bG f .any h) id (.box ((cm f .any cs).set off (.own (.sl e ms) (.slice (l.map H)))))) f .dead⟩:=by
  simp only[iu,am,U,Tq,hh,jY,sK]
  congr 1
  funext i
  by_cases hi:i=f
  ·subst hi;simp only[am,TB]
  ·by_cases r9:i=id
   ·subst r9;simp only[am,hi,Tq,TB]
   ·simp only[am,hi,r9,Tq,bG]
 rw[e1] at h2
 exact h1.trans h2
theorem p1 {l:List α} (hh:h id= .box cs) (hc:cs[off]?=some (.own (.sl e ms) (.slice (l.map H)))) (U:id≠f) (hn:ms.length=n) (I:(cm f .any cs).set off (.vec f)=C) (hk:AW P B Q ⟨bl f .any s,am (am (bG f .any h) id (.box C)) f (.vec e n (au ms H l))⟩):AW P B Q ⟨s,h⟩:=pO (Hq hh hc U hn I) hk
theorem JN {l:List α} (hh:h id= .box cs) (hc:cs[off]?=some (.vec f)) (U:id≠f) (hj:h f= .vec e n rows) (D:bL rows (au ms H l)) (hn:ms.length=n) (F:∀ a,(H a).length=ms.length) (I:(cm f .any cs).set off (.own (.sl e ms) (.slice (l.map H)))=C) (hk:AW P B Q ⟨bl f .any s,am (am (bG f .any h) id (.box C)) f .dead⟩):AW P B Q ⟨s,h⟩:=pO (f2 hh hc U hj D hn F I) hk
theorem L4 {c:Nat} {b:List SV} {l:List α} (hh:h id= .box cs) (hc:cs[off]?=some (.vec c)) (U:id≠c) (g:id≠f) (hj:h c= .vec e n rows) (D:bL rows (au ms H l)) (hn:ms.length=n) (F:∀ a,(H a).length=ms.length) (I:(cm c .any cs).set off (.own (.sl e ms) (.slice (l.map H)))=b) (ho:off<cs.length) (d:(cm f .any b).set off (.vec f)=C) (hk:AW P B Q ⟨bl f .any (bl c .any s),am (am (bG f .any (am (am (bG c .any h) id (.box b)) c .dead)) id (.box C)) f (.vec e n (au ms H l))⟩):AW P B Q ⟨s,h⟩:=by
 refine JN hh hc U hj D hn F I ?_
 refine p1 (ms:=ms) (l:=l) (H:=H) (by simp only[am,U,Tq,TB]) ?_ g hn d hk
 rw[<-I,Uc (by rw[kO];exact ho)]
end
attribute [push_cast] SV.plug SV.plugs N9 bj.plains bj.plain F3 sI gl cU Vd Vf
theorem Rk {x:SC} {J:List (List DV)} (hv:h id= .vec e sz rows) (C:SV.frzR rows=some J) (G:AW P x Q ⟨bl id (.slice J) s,am (bG id (.slice J) h) id .dead⟩):AW P x Q ⟨s,h⟩:=pO (vi hv C) G
theorem L5 (hh:h id= .vec e n (aM H l)) (F:∀ a,(H a).length=n) (hi:id∉ids) (hl:lb h xs rs ids):lb h (.vec id::xs) (.own (.sl e (List.replicate n .sh)) (.slice (l.map H))::rs) (id::ids):=
 Ir (ms:=List.replicate n .sh) (by rw[oi F];exact hh) oS (by simpa using F) hi hl
theorem Hr (hn:res.nOwn=1) (ho:res.own1=some (.sl e (List.replicate n .sh),.slice (l.map H))) (F:∀ a,(H a).length=n):
  takes ⟨s,h⟩ [] (some dst) res=some ⟨am (bl dst .any s) dst (SV.plug (.vec dst) res),am (bG dst .any h) dst (.vec e n (aM H l))⟩:=by
 have h0:¬ res.nOwn=0:=by rw[hn];decide
 simp only[takes,if_neg h0,U4 hn,ho,cf,iT,Tn]
 rw[<-oi F];rfl
theorem Sc {R:Type} {r:R} {k:Y->Option R} {res:Y->SV} {l:Y->List α} (Z:a.bind k=some r) (hx:SV.toDVs (args.map (ev s))=some b) (hs:∀ y,a=some y->bu P f (as.map .d) (res y) (as.map .d)) (he:b=as) (hn:∀ y,(res y).nOwn=1) (ho:∀ y,(res y).own1=some (.sl e (List.replicate n .sh),.slice ((l y).map H))) (F:∀ a,(H a).length=n) (h6:∀ y,(res y).closed=true) (hk:∀ y,k y=some r->aD P K sos ⟨am (bl dst .any s) dst (SV.plug (.vec dst) (res y)),am (bG dst .any h) dst (.vec e n (aM H (l y)))⟩):aD P K (.p (some dst) (.f f) args::sos) ⟨s,h⟩:=by
 subst he
 cases hy:a with
 |none=>rw[hy] at Z;cases Z
 |some y=>
  rw[hy] at Z
  exact Ra (j:=⟨s,h⟩) (L:=[]) (bm.refl _) (hs y hy) (h6 y) (nU hx) (Hr (hn y) (ho y) F) (hk y Z)
end Go.Proofs.YtgmnipfafmphaaaGreatDoor

