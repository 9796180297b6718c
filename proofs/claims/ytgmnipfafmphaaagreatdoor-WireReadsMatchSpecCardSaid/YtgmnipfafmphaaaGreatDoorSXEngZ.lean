/-
  My text.
-/
import Derived.Test.YtgmnipfafmphaaaGreatDoorSXEngY
namespace Go.Proofs.YtgmnipfafmphaaaGreatDoor
set_option linter.unusedSimpArgs false
set_option linter.unusedVariables false
open Go.RowKit
variable {B:SC} {C:List SV} {N:Nat} {P:Program} {Q:AX->St->Prop} {R:List (List SV)} {S:List bH} {as:List DV} {c cells cs:List SV} {dst e e' f:Nat} {h:Nat->Ch} {i id:Nat} {ids:List Nat} {k:IntKind} {late:List (Nat×Nat×sA)} {ms:List bH} {n n':Nat} {o:List (List SV)} {off:Nat} {outs:List SV} {qs:List RV} {res:SV} {rows:List (List SV)} {s:Nat->SV} {sz:Nat} {v:SX} {v0:SV} {ys:List (List SV)} {z:SX} {α β:Type} {σ:St} {A:β->List DV} {H:α->List DV} {l:List α} {y:List β}
section
variable {P:Program} {s:Nat->SV} {h:Nat->Ch} {K:St->Prop} {sos:List SO} {α:Type} {H:α->List DV}
theorem AB {l:List α} (F:∀ a,(H a).length=n):takes σ [] (some dst) (.own (.sl e (List.replicate n .sh)) (.slice (l.map H)))=some ⟨ap (bG dst .any σ.s) dst (.vec dst),ap (bK dst .any σ.h) dst (.vec e n (aY H l))⟩:=by
 simp only[takes,SV.nOwn,SV.own1,cP,VE,uG F,SV.plug,l0]
 rfl
theorem UJ {Y R:Type} {r:R} {a:Option Y} {k:Y->Option R} {args:List SX} {b:List DV} {l:Y->List α} (Z:a.bind k=some r) (hx:SV.toDVs (args.map (ev s))=some b) (hs:∀ y,a=some y->bw P f (as.map .d) (.own (.sl e (List.replicate n .sh)) (.slice ((l y).map H))) (as.map .d)) (he:b=as) (F:∀ a,(H a).length=n) (hk:∀ y,k y=some r->aI P K sos ⟨ap (bG dst .any s) dst (.vec dst),ap (bK dst .any h) dst (.vec e n (aY H (l y)))⟩):aI P K (.p (some dst) (.f f) args::sos) ⟨s,h⟩:=by
 subst he
 cases hy:a with
 |none=>rw[hy] at Z;cases Z
 |some y=>
  rw[hy] at Z
  exact Um (z:=⟨s,h⟩) (L:=[]) (bt.refl _) (hs y hy) rfl (tZ hx) (AB F) (hk y Z)
theorem G0 {R:Type} {r:R} {l:List α} {n:Int} {x i:SX} {kk:α->Option R} (Z:(aV l n).bind kk=some r) (hx:ev s x= .d (.slice (l.map H))) (hi:ev s i= .d (.int k n)) (F:∀ e,(H e).length=sz) (hk:∀ e,aV l n=some e->kk e=some r->aI P K sos ⟨ap s dst (.d (.ptr (H e))),h⟩):aI P K (.r dst (.idx sz x i)::sos) ⟨s,h⟩:=by
 cases he:aV l n with
 |none=>rw[he] at Z;cases Z
 |some e=>
  rw[he] at Z
  obtain⟨h1,h2⟩:=GV (h:=h) hx hi F he
  exact jj h1 h2 (hk e he Z)
theorem P5 {l:List α} {a t:Nat} {n:Int} {x i:SX} {e:α} (hx:ev s x= .d (.slice (l.map H))) (hi:ev s i= .d (.int k n)) (he:aV l n=some e) (F:∀ e,(H e).length=sz) (ht:s t= .d (.ptr (H e))) (hl:su ⟨s,h⟩ late):su ⟨s,h⟩ ((a,t,.idx sz x i)::late):=by
 obtain⟨h1,h2⟩:=GV (h:=h) hx hi F he
 exact lj h1 h2 ht.symm hl
end
def ar (ms:List bH) (H:α->List DV) (l:List α):List (List SV):=(l.map H).map (bA ms)
section
variable {α:Type} {ms:List bH} {H:α->List DV} {l:List α}
theorem du:(ar ms H l).length=l.length:=by simp[ar]
theorem uI {l2:List α}:ar ms H (l++l2)=ar ms H l++ar ms H l2:=by simp[ar]
theorem rA {x:α} (h:l[i]?=some x):(ar ms H l)[i]?=some (bA ms (H x)):=by simp[ar,V5,h]
theorem xq {x:α}:ar ms H (l.set i x)=(ar ms H l).set i (bA ms (H x)):=by simp[ar,List.map_set]
theorem p8 (F:∀ a,(H a).length=n):ar (List.replicate n .sh) H l=aY H l:=uG F l
theorem g9 (id:Nat) (o:DV):∀ (l:List α),dz id o (ar ms H l)=ar ms H l
 |[]=>rfl
 |x::l=>by
  have ih:=g9 id o l
  unfold ar at ih⊢
  simp only[VF,dz,xk,ih]
theorem DP:∀ {ms:List bH} {J:List DV} {off:Nat} {m:bH} {d:DV},ms[off]?=some m->(bA ms J).set off (vY m d)=bA ms (J.set off d)
 |[],J,off,m,d,h=>by simp at h
 |m'::ms,[],off,m,d,h=>by simp[bA]
 |m'::ms,c::J,0,m,d,h=>by simp at h;subst h;simp[bA]
 |m'::ms,c::J,off+1,m,d,h=>by
  have:=DP (ms:=ms) (J:=J) (off:=off) (m:=m) (d:=d) (by simpa using h)
  simp only[AA,List.set_cons_succ,this]
theorem Iq:∀ {ms:List bH} {J:List DV} {off:Nat} {m:bH} {d:DV},ms[off]?=some m->J[off]?=some d->(bA ms J)[off]?=some (vY m d)
 |[],J,off,m,d,h,_=>by simp at h
 |m'::ms,[],off,m,d,_,h=>by simp at h
 |m'::ms,c::J,0,m,d,h,h2=>by simp at h h2;subst h h2;rfl
 |m'::ms,c::J,off+1,m,d,h,h2=>by
  rw[AA,Wl]
  exact Iq (by simpa using h) (by simpa using h2)
end
section
variable {P:Program} {s:Nat->SV} {h:Nat->Ch} {K:St->Prop} {sos:List SO} {α β:Type} {H:α->List DV} {A:β->List DV} {ms S:List bH} {l:List α} {l':List β} {x:α}
theorem rB (hh:h id= .vec e sz (ar ms H l)) (hx:l[i]?=some x) (Z:ms[off]?=some (.sl e' S)) (hd:(H x)[off]?=some (.slice (l'.map A))) (U:id≠f):
  bt ⟨s,h⟩ ⟨bG f .any s,ap (ap (bK f .any h) id (.vec e sz ((ar ms H l).set i ((bA ms (H x)).set off (.vec f))))) f (.vec e' S.length (ar S A l'))⟩:=by
 refine vW (σ:=⟨s,h⟩) (p:= .v i off) U ?_
 have L:mm (h id) (.v i off)=some (.own (.sl e' S) (.slice (l'.map A))):=by
  simp only[hh,mm,rA hx]
  exact Iq Z hd
 simp only[uy,L,cP]
 simp only[hh,mj,g9,ux,rA hx]
 rfl
theorem DQ {x':α} (hh:h id= .vec e sz ((ar ms H l).set i ((bA ms (H x)).set off (.vec f)))) (hx:l[i]?=some x) (hj:h f= .vec e' n o) (D:bv o (ar S A l')) (hn:S.length=n) (Z:ms[off]?=some (.sl e' S)) (F:∀ a,(A a).length=S.length) (h9:off<(H x).length) (hy:H x'=(H x).set off (.slice (l'.map A))) (U:id≠f):
  bt ⟨s,h⟩ ⟨bG f .any s,ap (ap (bK f .any h) id (.vec e sz (ar ms H (l.set i x')))) f .dead⟩:=by
 subst hn
 have N:i<l.length:=(Vr.1 hx).1
 have I:off<(bA ms (H x)).length:=by
  unfold bA
  have:=(Vr.1 Z).1
  simp only[List.length_zipWith];omega
 have h1:bt ⟨s,h⟩ ⟨s,ap h f (.vec e' S.length (ar S A l'))⟩:=mJ (fun _=> .inl rfl) fun j=>by
  by_cases X:j=f
  ·subst X;simp only[ap,VW,hj];exact fO D
  ·simp only[ap,X,VQ];exact bT rfl
 have R:((ar ms H l).set i ((bA ms (H x)).set off (.vec f)))[i]?=some ((bA ms (H x)).set off (.vec f)):=Wg (by rw[du];exact N)
 have h2:=nN (σ:=⟨s,ap h f (.vec e' S.length (ar S A l'))⟩) (id:=id) (g:=f) (p:= .v i off) (m:= .sl e' S) (d:= .slice (l'.map A)) (ch:= .vec e' S.length (ar S A l')) (mk:= .vec) U
  (by simp only[cP];rfl) (by intro r D;obtain⟨a,_,rfl⟩:=VT.1 D;exact F a) (by simp only[ap,U,VQ,hh,mm,R];exact Wg I) (by simp only[ap,VW])
 have e0:dz f .any ((ar ms H l).set i ((bA ms (H x)).set off (.vec f)))=(ar ms H l).set i ((bA ms (H x)).set off (.d .any)):=by
  rw[tR,g9]
  congr 1
  have:=Dc f .any (.vec f) (bA ms (H x)) off
  rw[<-this,xk]
  simp only[d6,VW]
 have e1:hR ⟨s,ap h f (.vec e' S.length (ar S A l'))⟩ id (.v i off) f (.sl e' S) (.slice (l'.map A))=⟨bG f .any s,ap (ap (bK f .any h) id (.vec e sz (ar ms H (l.set i x')))) f .dead⟩:=by
  simp only[hR,ap,U,VQ,hh,mj,e0]
  congr 1
  have k:((ar ms H l).set i ((bA ms (H x)).set off (.d .any)))[i]?=some ((bA ms (H x)).set off (.d .any)):=Wg (by rw[du];exact N)
  have e3:((bA ms (H x)).set off (.d .any)).set off (.own (.sl e' S) (.slice (l'.map A)))=bA ms (H x'):=by
   rw[Xq,hy]
   exact DP Z
  funext j
  by_cases u:j=f
  ·subst u;simp only[ap,VW]
  ·by_cases r4:j=id
   ·subst r4
    simp only[ap,u,VQ,VW,ux,k,e3,Xq,xq]
   ·simp only[ap,u,r4,VQ,bK]
 rw[e1] at h2
 exact h1.trans h2
theorem ri {R:Type} {r:R} {n:Int} {y i:SX} {kk:α->Option R} (Z:(aV l n).bind kk=some r) (hx:ev s y= .vec id) (hh:h id= .vec e sz rows) (hl:rows.length=l.length) (hi:ev s i= .d (.int k n)) (hk:∀ a,aV l n=some a->kk a=some r->aI P K sos ⟨ap s dst (.vref id sz n.toNat 0),h⟩):aI P K (.r dst (.idx sz y i)::sos) ⟨s,h⟩:=by
 cases he:aV l n with
 |none=>rw[he] at Z;cases Z
 |some a=>
  rw[he] at Z
  have g:=he
  unfold aV at g
  split at g
  ·rename_i h0
   obtain⟨h9,_⟩:=Vr.1 g
   refine jj (p:=0<=n/\n<rows.length/\sz=sz) (v:= .vref id sz n.toNat 0) ?_ ⟨h0,by omega,rfl⟩ (hk a he Z)
   simp only[rd,hi,hx,hh]
  ·cases g
end
section
variable {P:Program} {B:SC} {Q:AX->St->Prop} {s:Nat->SV} {h:Nat->Ch} {K:St->Prop} {sos:List SO} {α β:Type} {H:α->List DV} {A:β->List DV} {ms S:List bH} {l:List α}
theorem P6 {R:Type} {r:R} (f d:Nat) {n:Int} {kk:α->Option R} {fld:α->List β} {cells:α->List SV} (Z:(aV l n).bind kk=some r) (hi:s d= .d (.int k n)) (hh:h id= .vec e sz (ar ms H l)) (j:ms[off]?=some (.sl e' S)) (V:S=List.replicate n' .sh) (hd:∀ x,(H x)[off]?=some (.slice ((fld x).map A))) (hc:∀ x,(bA ms (H x)).set off (.vec f)=cells x) (U:id≠f) (F:∀ b,(A b).length=n') (hk:∀ x,aV l n=some x->kk x=some r->AW P B Q ⟨bG f .any s,ap (ap (bK f .any h) id (.vec e sz ((ar ms H l).set n.toNat (cells x)))) f (.vec e' n' (aY A (fld x)))⟩):AW P B Q ⟨s,h⟩:=by
 subst V
 cases he:aV l n with
 |none=>rw[he] at Z;cases Z
 |some x=>
  rw[he] at Z
  have g:=he
  unfold aV at g
  split at g
  ·have h1:=rB (s:=s) (f:=f) hh g j (hd x) U
   rw[hc x,p8 F,VE] at h1
   exact p2 h1 (hk x he Z)
  ·cases g
theorem DR {x x':α} {l':List β} (hh:h id= .vec e sz ((ar ms H l).set i cells)) (hx:l[i]?=some x) (hc:(bA ms (H x)).set off (.vec f)=cells) (hj:h f= .vec e' n' o) (D:bv o (aY A l')) (j:ms[off]?=some (.sl e' (List.replicate n' .sh))) (F:∀ b,(A b).length=n') (h9:off<(H x).length) (hy:H x'=(H x).set off (.slice (l'.map A))) (U:id≠f):
  bt ⟨s,h⟩ ⟨bG f .any s,ap (ap (bK f .any h) id (.vec e sz (ar ms H (l.set i x')))) f .dead⟩:=by
 subst hc
 exact DQ hh hx hj (by rw[p8 F];exact D) oS j (by simpa using F) h9 hy U
theorem Ir {x x':α} {l':List β} (hj:h f= .vec e' n' o) (hh:h id= .vec e sz ((ar ms H l).set i cells)) (hx:l[i]?=some x) (hc:(bA ms (H x)).set off (.vec f)=cells) (D:bv o (aY A l')) (j:ms[off]?=some (.sl e' S)) (V:S=List.replicate n' .sh) (F:∀ b,(A b).length=n') (h9:off<(H x).length) (hy:H x'=(H x).set off (.slice (l'.map A))) (U:id≠f) (hk:AW P B Q ⟨bG f .any s,ap (ap (bK f .any h) id (.vec e sz (ar ms H (l.set i x')))) f .dead⟩):AW P B Q ⟨s,h⟩:=p2 (DR hh hx hc hj D (by rw[<-V];exact j) F h9 hy U) hk
theorem we {v:SV} (ho:off<cs.length):splice cs off [v]=cs.set off v:=by
 unfold splice
 refine List.ext_getElem? fun j=> ?_
 simp only[Vk,Vp,VD,Vy,List.getElem?_append,VA,Wp,WE,List.getElem?_set]
 have E:min off cs.length=off:=by omega
 by_cases h1:j<off
 ·have:¬ off=j:=by omega
  simp[this,h1]
  omega
 ·by_cases h2:off=j
  ·subst h2
   simp[E,ho]
  ·have h4:¬ j - off<1:=by omega
   simp only[E,h1,VQ,h2,h4]
   have h5:off+1+(j - off - 1)=j:=by omega
   simp only[h5]
theorem N4 {d:Nat} {y:SX} (Y:ev s y= .vref id sz i off) (hv:(ev s v).cells?=some [v0]) (hh:h id= .vec e sz (R.set i cells)) (hi:i<R.length) (ho:off<cells.length):
  wr ⟨s,h⟩ d (.st 1 y v)=some (sz=sz/\[v0].length=1/\off+1<=cells.length,⟨s,ap h id (.vec e sz (R.set i (cells.set off v0)))⟩):=by
 have L:(R.set i cells)[i]?=some cells:=Wg hi
 simp only[wr,Y,hv,hh,L,we ho,Xq]
theorem Sg {y:SX} (Y:ev s y= .vref id sz i off) (hv:(ev s v).cells?=some [v0]) (hh:h id= .vec e sz (R.set i cells)) (hi:i<R.length) (ho:off<cells.length) (hk:aI P K sos ⟨s,ap h id (.vec e sz (R.set i (cells.set off v0)))⟩):aI P K (.w 0 (.st 1 y v)::sos) ⟨s,h⟩:=tD (N4 Y hv hh hi ho) ⟨rfl,rfl,by omega⟩ hk
theorem G3 {y:SX} (Y:ev s y= .vref id sz i off) (hv:(ev s v).cells?=some [v0]) (hh:h id= .vec e sz (R.set i cells)) (hi:i<R.length) (ho:off<cells.length) (hs:cells.set off v0=c) (hl:su ⟨s,ap h id (.vec e sz (R.set i c))⟩ late) (hk:aI P K sos ⟨s,ap h id (.vec e sz (R.set i c))⟩):aI P K (.x 0 (.st 1 y v) late::sos) ⟨s,h⟩:=by
 subst hs
 exact Bj (N4 Y hv hh hi ho) ⟨rfl,rfl,by omega⟩ hl hk
end
section
variable {P:Program} {s:Nat->SV} {h:Nat->Ch} {K:St->Prop} {sos:List SO} {α β:Type} {H:α->List DV} {ms:List bH} {l l2:List α} {x:α}
theorem jk {n:Int} (h:aV l n=some x):l[n.toNat]?=some x:=by
 unfold aV at h;split at h
 ·exact h
 ·cases h
theorem pI:bv (ar ms H l) (ar ms H l):=bv.rfl
theorem TB {l:List (List UInt8)}:bv (aY dr l) (ar [.sh] dr l):=bv.of_eq (p8 (H:=dr) (n:=1) (fun _=>rfl)).symm
theorem DS:bv [] (ar ms H ([]:List α)):=bv.rfl
theorem uJ {a b:List (List SV)} (h1:bv a (ar ms H l)) (h2:bv b (ar ms H l2)):bv (a++b) (ar ms H (l++l2)):=by rw[uI];exact h1.append h2
theorem rX {r:List SV} (h1:ae r (bA ms (H x))):bv [r] (ar ms H [x]):= .cons h1 .nil
theorem Sh {H:β->List DV}:ae [.nils] (bA [.sl e ms] (hY H ([]:List β))):= .cons (.inr ⟨rfl,_,_,rfl⟩) ae.nil
theorem Cm {R:Type} {r:R} {kk:Option R} {f:List (List SV)} {k:Nat} {y:SX} (Z:ew (gq (l.length+k)) kk=some r) (hx:ev s y= .vec id) (hh:h id= .vec e sz (ar ms H l)) (hy:sM (ev s z)=some f) (hl:f.length=k) (W:∀ r∈f,r.length=sz) (hk:kk=some r->aI P K sos ⟨ap (bG id .any s) dst (.vec id),ap (bK id .any h) id (.vec e sz (ar ms H l++dz id .any f))⟩):aI P K (.w dst (.app e sz y z)::sos) ⟨s,h⟩:=by
 cases g:gq (l.length+k) with
 |none=>rw[g] at Z;cases Z
 |some u=>
  rw[g] at Z
  have I:=nT.1 g
  refine tD (p:=e=e/\sz=sz/\(∀ r∈f,r.length=sz)/\(ar ms H l).length+f.length<=137438953472) ?_ ⟨rfl,rfl,W,by rw[du,hl];exact I⟩ (hk Z)
  have e1:dz id .any (ar ms H l++f)=ar ms H l++dz id .any f:=by rw[nO,g9]
  simp only[wr,hx,hy,hh,dh,St.swap,e1]
theorem FQ {c:SV} {y:SX} (Y:ev s y= .vref id sz i off) (hh:h id= .vec e sz (R.set i cells)) (hi:i<R.length) (hc:cells[off]?=some c) (r2:c.noOwn=true) (hk:aI P K sos ⟨ap s dst c,h⟩):aI P K (.r dst (.ld1 y)::sos) ⟨s,h⟩:=by
 have L:(R.set i cells)[i]?=some cells:=Wg hi
 refine jj (p:=sz=sz) (v:=c) ?_ rfl hk
 simp only[rd,Y,hh,L,hc,r2,VW]
theorem iS {n:Int} (h:aV l n=some x):n.toNat<l.length:=(Vr.1 (jk h)).1
theorem yE (Y:bH.plains ms=true) (hl:∀ x,(H x).length=ms.length):SV.frzR (ar ms H l)=some (l.map H):=Fp Y (fun r D=>by obtain⟨x,_,rfl⟩:=VT.1 D;exact hl x)
end
theorem yF (hh:h id= .vec e sz (rows++[cells])) (hc:cells[off]?=some (.vec f)) (hj:h f= .vec e' n o) (D:bv o (ar S A y)) (hn:S.length=n) (F:∀ a,(A a).length=S.length) (U:id≠f):bt ⟨s,h⟩ ⟨bG f .any s,ap (ap (bK f .any h) id (.vec e sz (dz f .any rows++[(ck f .any cells).set off (.own (.sl e' S) (.slice (y.map A)))]))) f .dead⟩:=by
 subst hn
 have h1:bt ⟨s,h⟩ ⟨s,ap h f (.vec e' S.length (ar S A y))⟩:=mJ (fun _=> .inl rfl) fun j=>by
  by_cases X:j=f
  ·subst X;simp only[ap,VW,hj];exact fO D
  ·simp only[ap,X,VQ];exact bT rfl
 have h2:=nN (σ:=⟨s,ap h f (.vec e' S.length (ar S A y))⟩) (id:=id) (g:=f) (p:= .v rows.length off) (m:= .sl e' S) (d:= .slice (y.map A)) (ch:= .vec e' S.length (ar S A y)) (mk:= .vec) U
  (by simp only[cP];rfl) (by intro r D;obtain⟨a,_,rfl⟩:=VT.1 D;exact F a) (by simp only[ap,U,VQ,hh,mm];simp[hc]) (by simp only[ap,VW])
 have e1:hR ⟨s,ap h f (.vec e' S.length (ar S A y))⟩ id (.v rows.length off) f (.sl e' S) (.slice (y.map A))=⟨bG f .any s,ap (ap (bK f .any h) id (.vec e sz (dz f .any rows++[(ck f .any cells).set off (.own (.sl e' S) (.slice (y.map A)))]))) f .dead⟩:=by
  have Z:(dz f .any rows).length=rows.length:=kM f .any rows
  simp only[hR,ap,U,VQ,hh,mj,nO,dz]
  congr 1
  funext j
  by_cases u:j=f
  ·subst u;simp only[ap,VW]
  ·by_cases r4:j=id
   ·subst r4
    have L:(dz f .any rows++[ck f .any cells])[rows.length]?=some (ck f .any cells):=by rw[<-Z];simp
    simp only[ap,u,VQ,VW,ux,L]
    congr 1
    rw[<-Z]
    simp
   ·simp only[ap,u,r4,VQ,bK]
 rw[e1] at h2
 exact h1.trans h2
theorem N5 (hj:h f= .vec e' n o) (hh:h id= .vec e sz (rows++[cells])) (hc:cells[off]?=some (.vec f)) (D:bv o (ar S A y)) (hn:S.length=n) (F:∀ a,(A a).length=S.length) (U:id≠f) (hk:AW P B Q ⟨bG f .any s,ap (ap (bK f .any h) id (.vec e sz (dz f .any rows++[(ck f .any cells).set off (.own (.sl e' S) (.slice (y.map A)))]))) f .dead⟩):AW P B Q ⟨s,h⟩:=p2 (yF hh hc hj D hn F U) hk
theorem LT (hj:h f= .vec e' n o) (hh:h id= .vec e sz [cells]) (hc:cells[off]?=some (.vec f)) (D:bv o (ar S A y)) (hn:S.length=n) (F:∀ a,(A a).length=S.length) (U:id≠f) (I:(ck f .any cells).set off (.own (.sl e' S) (.slice (y.map A)))=c) (hk:AW P B Q ⟨bG f .any s,ap (ap (bK f .any h) id (.vec e sz [c])) f .dead⟩):AW P B Q ⟨s,h⟩:=by
 subst I
 exact N5 (rows:=[]) hj hh hc D hn F U hk
theorem DT {K:St->Prop} {sos:List SO} {R:Type} {r:R} {kk:Option R} {f:List (List SV)} {k:Nat} {y:SX} (Z:ew (gq (l.length+k)) kk=some r) (hx:ev s y= .vec id) (hh:h id= .vec e sz (ar ms H l)) (hy:sM (ev s z)=some f) (hl:f.length=k) (W:∀ r∈f,r.length=sz) (a:su ⟨ap (bG id .any s) dst (.vec id),ap (bK id .any h) id (.vec e sz (ar ms H l++dz id .any f))⟩ late) (hk:kk=some r->aI P K sos ⟨ap (bG id .any s) dst (.vec id),ap (bK id .any h) id (.vec e sz (ar ms H l++dz id .any f))⟩):aI P K (.x dst (.app e sz y z) late::sos) ⟨s,h⟩:=by
 cases g:gq (l.length+k) with
 |none=>rw[g] at Z;cases Z
 |some u=>
  rw[g] at Z
  have I:=nT.1 g
  refine Bj (p:=e=e/\sz=sz/\(∀ r∈f,r.length=sz)/\(ar ms H l).length+f.length<=137438953472) ?_ ⟨rfl,rfl,W,by rw[du,hl];exact I⟩ a (hk Z)
  have e1:dz id .any (ar ms H l++f)=ar ms H l++dz id .any f:=by rw[nO,g9]
  simp only[wr,hx,hy,hh,dh,St.swap,e1]
theorem N6 {R:Type} {r:R} (Z:(none:Option R)=some r):BO N n qs res outs .normal σ:=by cases Z
theorem Is {H:β->List DV} {l:List (List β)} (Y:bH.plains ms=true):SV.frzR (ar [.sl e ms] (hY H) l)=some (l.map (hY H)):=yE (by simp only[bH.plains,bH.plain,Y,W7]) (fun _=>rfl)
theorem zu (id:Nat) (ms:List bH) (H:α->List DV) (hh:h id= .vec e sz (rows++ys)) (D:bv (rows++ys) (ar ms H l)) (hk:AW P B Q ⟨s,ap h id (.vec e sz (ar ms H l))⟩):AW P B Q ⟨s,h⟩:=by
 have h1:bt ⟨s,h⟩ ⟨s,ap h id (.vec e sz (ar ms H l))⟩:=mJ (fun _=> .inl rfl) fun j=>by
  by_cases hj:j=id
  ·subst hj;simp only[ap,VW,hh];exact fO D
  ·simp only[ap,hj,VQ];exact bT rfl
 exact p2 h1 hk
theorem wg (hj:h f= .vec e' n o) (hh:h id= .vec e sz (rows++[cells])) (hc:cells[off]?=some (.vec f)) (D:bv o (ar S A y)) (hn:S.length=n) (F:∀ a,(A a).length=S.length) (U:id≠f):bt ⟨s,h⟩ ⟨bG f .any s,ap (ap (bK f .any h) id (.vec e sz (dz f .any rows++[(ck f .any cells).set off (.own (.sl e' S) (.slice (y.map A)))]))) f .dead⟩:=yF hh hc hj D hn F U
theorem It (hj:h f= .vec e' n o) (hh:h id= .vec e sz [cells]) (hc:cells[off]?=some (.vec f)) (D:bv o (ar S A y)) (hn:S.length=n) (F:∀ a,(A a).length=S.length) (U:id≠f) (I:(ck f .any cells).set off (.own (.sl e' S) (.slice (y.map A)))=c):bt ⟨s,h⟩ ⟨bG f .any s,ap (ap (bK f .any h) id (.vec e sz [c])) f .dead⟩:=by
 subst I
 exact yF (rows:=[]) hh hc hj D hn F U
theorem kg (id:Nat) (ms:List bH) (H:α->List DV) (hh:h id= .vec e sz (rows++ys)) (D:bv (rows++ys) (ar ms H l)):bt ⟨s,h⟩ ⟨s,ap h id (.vec e sz (ar ms H l))⟩:=mJ (fun _=> .inl rfl) fun j=>by
  by_cases hj:j=id
  ·subst hj;simp only[ap,VW,hh];exact fO D
  ·simp only[ap,hj,VQ];exact bT rfl
def P7 (N:Nat) (as:List DV):Nat->SV:=fun j=>if j<N then(match as[j]? with|some d=> .d d|none=> .d .any) else match as[j - N]? with|some d=> .d d|none=> .d .any
theorem G4 {h:Nat->Ch} {ys rs:List SV} {ids:List Nat} (D:p7 h ys rs ids):∀ {gs:List SV} {as:List DV},SV.toDVs gs=some as->p7 h (gs++ys) (as.map .d++rs) ids
 |[],as,hd=>by simp only[SV.toDVs,Vi] at hd;subst hd;exact D
 |g::gs,as,hd=>by
  unfold SV.toDVs at hd
  split at hd
  ·rename_i d i h1 h2
   simp only[Vi] at hd;subst hd
   exact .data h1 (G4 D h2)
  ·cases hd
theorem Si {R:Type} {r r0:R} {q:RV} {H:R->List DV} {gs:List SV} {u:Nat->SV} {h1:Nat->Ch} (Z:some r0=some r) (h6:bt σ ⟨u,h1⟩) (hq:IQ ⟨u,h1⟩ [q]=some [.agg cs]) (L:jD N ⟨u,h1⟩ n=gs) (u4:SV.toDVs gs=some as) (D:p7 h1 cs C ids) (hG:C=bA ms (H r0)):BO N n [q] (.agg (bA ms (H r))) (as.map .d) .ret σ:=by
 cases Z
 subst hG
 refine⟨⟨u,h1⟩,h6,[.agg cs],[.agg (bA ms (H r))],ids,hq,rfl,rfl, ?_⟩
 rw[L]
 refine G4 ?_ u4
 have:=p7.agg (h:=h1) D (fun i _=>Wu) p7.nil
 simpa using this
theorem P8 {xs rs:List SV} (hh:h id= .vec e n (ar ms H l)) (hn:ms.length=n) (F:∀ a,(H a).length=ms.length) (hi:id∉ids) (hl:p7 h xs rs ids):p7 h (.vec id::xs) (.own (.sl e ms) (.slice (l.map H))::rs) (id::ids):=by
 subst hn
 exact .own (ch:= .vec e ms.length (ar ms H l)) (mk:= .vec) rfl (by intro r D;obtain⟨a,_,rfl⟩:=VT.1 D;exact F a) hh hi hl
theorem Iu {k:Nat} {fn:Func} {x:SC} (C:P.funcs[f]?=some fn) (o:fits P f fn x qs k=true) (hN:fn.ntmps=N) (hk:as.length=k) (t:outs.length=k) (h:AW P x (BO N k qs res outs) ⟨P7 N as,fun _=> .dead⟩):bw P f (as.map .d) res outs:=by
 subst hN hk
 have I:(as.map SV.d).length=as.length:=by simp
 refine yv (x:=x) (qs:=qs) C (by rw[I];exact o) ?_ (by rw[I];exact t) ?_
 ·rw[VN]
  intro y hy
  obtain⟨d,_,rfl⟩:=VT.1 hy
  rfl
 ·rw[I]
  have e1:Ds fn.ntmps (as.map .d)=P7 fn.ntmps as:=by
   funext j
   unfold Ds P7
   by_cases h9:j<fn.ntmps
   ·simp only[h9,VW,V5]
    cases as[j]?<;>simp[xA]
   ·simp only[h9,VQ,V5]
    cases as[j - fn.ntmps]?<;>simp[xA]
  have e2:EK (as.map .d)=fun _=> .dead:=by
   funext j
   unfold EK
   simp only[V5]
   cases as[j]?<;>simp[EJ]
  rw[e1,e2];exact h
section
variable {P:Program} {Q:AX->St->Prop} {B:SC} {s:Nat->SV} {h:Nat->Ch} {α:Type} {H:α->List DV}
theorem JP {l:List α} (hh:h id= .box cs) (hc:cs[off]?=some (.own (.sl e ms) (.slice (l.map H)))) (U:id≠f) (hn:ms.length=n) (I:(ck f .any cs).set off (.vec f)=C):
  bt ⟨s,h⟩ ⟨bG f .any s,ap (ap (bK f .any h) id (.box C)) f (.vec e n (ar ms H l))⟩:=by
 subst hn I
 refine vW (σ:=⟨s,h⟩) (p:= .b off) U ?_
 have L:mm (h id) (.b off)=some (.own (.sl e ms) (.slice (l.map H))):=by simp only[hh,mm,hc]
 simp only[uy,L,cP]
 simp only[hh,mj,ux]
 rfl
theorem kO {l:List α} (hh:h id= .box cs) (hc:cs[off]?=some (.vec f)) (U:id≠f) (hj:h f= .vec e n rows) (D:bv rows (ar ms H l)) (hn:ms.length=n) (F:∀ a,(H a).length=ms.length) (I:(ck f .any cs).set off (.own (.sl e ms) (.slice (l.map H)))=C):
  bt ⟨s,h⟩ ⟨bG f .any s,ap (ap (bK f .any h) id (.box C)) f .dead⟩:=by
 subst I hn
 have h1:bt ⟨s,h⟩ ⟨s,ap h f (.vec e ms.length (ar ms H l))⟩:=mJ (fun _=> .inl rfl) fun i=>by
  by_cases hi:i=f
  ·subst hi;simp only[ap,VW,hj];exact fO D
  ·simp only[ap,hi,VQ];exact bT rfl
 have h2:=nN (σ:=⟨s,ap h f (.vec e ms.length (ar ms H l))⟩) (id:=id) (g:=f) (p:= .b off) (m:= .sl e ms) (d:= .slice (l.map H)) (ch:= .vec e ms.length (ar ms H l)) (mk:= .vec) U
  rfl (by intro r D;obtain⟨a,_,rfl⟩:=VT.1 D;exact F a) (by simp only[ap,U,VQ,hh,mm,hc]) (by simp only[ap,VW])
 have e1:hR ⟨s,ap h f (.vec e ms.length (ar ms H l))⟩ id (.b off) f (.sl e ms) (.slice (l.map H))=⟨bG f .any s,ap (ap (bK f .any h) id (.box ((ck f .any cs).set off (.own (.sl e ms) (.slice (l.map H)))))) f .dead⟩:=by
  simp only[hR,ap,U,VQ,hh,mj,ux]
  congr 1
  funext i
  by_cases hi:i=f
  ·subst hi;simp only[ap,VW]
  ·by_cases r5:i=id
   ·subst r5;simp only[ap,hi,VQ,VW]
   ·simp only[ap,hi,r5,VQ,bK]
 rw[e1] at h2
 exact h1.trans h2
theorem lm {l:List α} (hh:h id= .box cs) (hc:cs[off]?=some (.own (.sl e ms) (.slice (l.map H)))) (U:id≠f) (hn:ms.length=n) (I:(ck f .any cs).set off (.vec f)=C) (hk:AW P B Q ⟨bG f .any s,ap (ap (bK f .any h) id (.box C)) f (.vec e n (ar ms H l))⟩):AW P B Q ⟨s,h⟩:=p2 (JP hh hc U hn I) hk
theorem LU {l:List α} (hh:h id= .box cs) (hc:cs[off]?=some (.vec f)) (U:id≠f) (hj:h f= .vec e n rows) (D:bv rows (ar ms H l)) (hn:ms.length=n) (F:∀ a,(H a).length=ms.length) (I:(ck f .any cs).set off (.own (.sl e ms) (.slice (l.map H)))=C) (hk:AW P B Q ⟨bG f .any s,ap (ap (bK f .any h) id (.box C)) f .dead⟩):AW P B Q ⟨s,h⟩:=p2 (kO hh hc U hj D hn F I) hk
theorem Iv {c:Nat} {b:List SV} {l:List α} (hh:h id= .box cs) (hc:cs[off]?=some (.vec c)) (U:id≠c) (g:id≠f) (hj:h c= .vec e n rows) (D:bv rows (ar ms H l)) (hn:ms.length=n) (F:∀ a,(H a).length=ms.length) (I:(ck c .any cs).set off (.own (.sl e ms) (.slice (l.map H)))=b) (ho:off<cs.length) (d:(ck f .any b).set off (.vec f)=C) (hk:AW P B Q ⟨bG f .any (bG c .any s),ap (ap (bK f .any (ap (ap (bK c .any h) id (.box b)) c .dead)) id (.box C)) f (.vec e n (ar ms H l))⟩):AW P B Q ⟨s,h⟩:=by
 refine LU hh hc U hj D hn F I ?_
 refine lm (ms:=ms) (l:=l) (H:=H) (by simp only[ap,U,VQ,VW]) ?_ g hn d hk
 rw[<-I,Wg (by rw[nM];exact ho)]
end
attribute [push_cast] SV.plug SV.plugs P7 bH.plains bH.plain Is tR g9 du XI Xq
theorem Q2 {x:SC} {J:List (List DV)} (hv:h id= .vec e sz rows) (C:SV.frzR rows=some J) (G:AW P x Q ⟨bG id (.slice J) s,ap (bK id (.slice J) h) id .dead⟩):AW P x Q ⟨s,h⟩:=p2 (la hv C) G
