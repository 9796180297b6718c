/-
  My text.
-/
import Derived.Test.YteaolfcegaidpaaGreatDoorSXEngRt
namespace Go.Proofs.YteaolfcegaidpaaGreatDoor
set_option linter.unusedSimpArgs false
set_option linter.unusedVariables false
open Go.RowKit
section
variable {V:Type} {ve:V->SV} {ki:IntKind}
theorem BA (a b:Int):ss (.int ki a) (.int ki b)=decide (a=b):=by simp[ss]
theorem zS:∀ (W:List (Int×V)) (k:Int),lM (ex (fun k=> .int ki k) ve W) (.int ki k)=(jB W k).map ve
 |[],_=>rfl
 |p::W,k=>by
  simp only[ex,Mk,lM,BA,jB]
  by_cases h:k=p.1
  ·simp[h]
  ·simp only[h,NB,MZ];exact zS W k
theorem zT:∀ (W:List (Int×V)) (k:Int) (v:V),iO (ex (fun k=> .int ki k) ve W) (.int ki k) (ve v)=ex (fun k=> .int ki k) ve (kA W k v)
 |[],_,_=>rfl
 |p::W,k,v=>by
  simp only[ex,Mk,iO,BA,kA]
  by_cases h:k=p.1
  ·simp[h]
  ·simp only[h,NB,MZ,Mk]
   have:=zT W k v
   simp only[ex] at this
   rw[this];rfl
theorem Gs {W:List (Int×V)} {k:Int} {v:V} {x:SV} (hx:x=ve v):xM (.map (.int ki) (iO (ex (fun k=> .int ki k) ve W) (.int ki k) x)) (.map (.int ki) (ex (fun k=> .int ki k) ve (kA W k v))):=by
 subst hx
 rw[zT]
 exact cT rfl
end
section
variable {P:Program} {s:Nat->SV} {h:Nat->Ch} {K:St->Prop} {sos:List SO} {α:Type} {row:α->List DV}
theorem I3 {V:Type} {dst id:Nat} {z:SV} {m k:SX} {ki:IntKind} {W:List (Int×V)} {key:Int} {f:V->DV} {z0:V} {ve:V->SV} (hx:ev s m= .mp id) (hk:ev s k= .d (.int ki key)) (hh:h id= .map (.int ki) (ex (fun k=> .int ki k) ve W)) (hve:ve=fun v=> .d (f v)) (hz:z= .d (f z0))
  (hrest:ba P K sos ⟨ay s dst (.d (f ((jB W key).getD z0))),h⟩):ba P K (.r dst (.look (.int ki) z false m k)::sos) ⟨s,h⟩:=by
 subst hve hz
 have hv:lN (ex (fun k=> .int ki k) (fun v=> .d (f v)) W) (.int ki key) (.d (f z0))= .d (f ((jB W key).getD z0)):=by
  unfold lN
  rw[zS]
  cases jB W key<;>rfl
 refine iE (p:=KK.int ki=KK.int ki/\KK.fits (.int ki) (.int ki key)=true/\(SV.d (f ((jB W key).getD z0))).noOwn=true) (v:= .d (f ((jB W key).getD z0))) ?_ ⟨rfl,by simp[KK.fits],rfl⟩ hrest
 simp only[rd,hx,hk,hh,hv];rfl
theorem I4 {R:Type} {r:R} {l:List α} {cs:List SV} {n:Int} {x i:SX} {ki:IntKind} {dst len w:Nat} {kk:α->Option R} (hm:(b_ l n).bind kk=some r) (hx:ev s x= .agg cs) (hc:cs=dR (l.flatMap row)) (hl:l.length=len) (hw:∀ e,(row e).length=w) (hi:ev s i= .d (.int ki n))
  (hk:∀ e,kk e=some r->ba P K sos ⟨ay s dst (.d (.agg (row e))),h⟩):ba P K (.r dst (.vidxA len w x i)::sos) ⟨s,h⟩:=by
 cases he:b_ l n with
 |none=>rw[he] at hm;cases hm
 |some e=>
  rw[he] at hm
  unfold b_ at he
  split at he
  ·rename_i h0
   have hlt:=(Md.1 he).1
   have key:∀ (l:List α) (k:Nat),l[k]?=some e->((dR (l.flatMap row)).drop (k * w)).take w=dR (row e):=by
    intro l
    induction l with
    |nil=>intro k hk;cases hk
    |cons a l ih=>
     intro k hk
     have ha:=hw a
     simp only[List.flatMap_cons,dR,NP]
     cases k with
     |zero=>
      simp only[Nu,L7] at hk
      subst hk
      simp[List.take_append,ha]
     |succ k=>
      simp only[M1] at hk
      have:=ih k hk
      have e1:(k+1) * w=((row a).map SV.d).length+k * w:=by rw[M6,ha,M4];omega
      rw[e1,List.drop_append,List.drop_eq_nil_of_le oM,Mq,Nat.add_sub_cancel_left]
      exact this
   have hd:∀ r:List DV,SV.toDVs (dR r)=some r:=fun r=>by
    induction r with
    |nil=>rfl
    |cons c r ih=>
     show(match SV.toDV (.d c),SV.toDVs (dR r) with|some x,some xs=>some (x::xs)|_,_=>none)=_
     rw[ih];rfl
   refine iE (p:=0<=n/\n<len) (v:= .d (.agg (row e))) ?_ ⟨h0,by omega⟩ (hk e hm)
   simp only[rd,hx,hi,hc,key l n.toNat he,hd]
  ·cases he
theorem Ld {A R:Type} {r:R} {a:Option A} {k:A->Option R} {enc:A->DV} {dst t f:Nat} {args:List SX} {as0 as caps:List DV} (hm:a.bind k=some r) (hf:s t= .d (.fn f caps)) (ha:SV.toDVs (args.map (ev s))=some as0) (hs:∀ x,a=some x->aa P f (as++caps) (enc x)) (he:as0=as) (hk:∀ x,k x=some r->ba P K sos ⟨ay s dst (.d (enc x)),h⟩):ba P K (.c dst (.t t) args::sos) ⟨s,h⟩:=by
 subst he;exact HZ hm hf ha hs hk
theorem LR {Y R:Type} {r:R} {a:Option Y} {k:Y->Option R} {dst f id:Nat} {args:List SX} {ms:List b8} {late:List (Nat×Nat×sM)} {E:Y->SV} {G:Y->List DV} {ci as0 as:List DV} {gs:List SV}
  (hm:a.bind k=some r) (hx:args.map (ev s)= .ref id 0::gs) (hgs:SV.toDVs gs=some as0) (hh:h id= .box (fB ms ci)) (hlen:ci.length=ms.length)
  (hs:∀ y,a=some y->cQ P f (.own (.pt ms) (.ptr ci)::as.map .d) (E y) (.own (.pt ms) (.ptr (G y))::as.map .d)) (he:as0=as) (henc:∀ y,(E y).closed=true/\(E y).nOwn=0/\(G y).length=ms.length)
  (hl:∀ y,AB ⟨ay s dst (E y),ay h id (.box (fB ms (G y)))⟩ late) (hk:∀ y,k y=some r->ba P K sos ⟨ay s dst (E y),ay h id (.box (fB ms (G y)))⟩):ba P K (.q dst (.f f) args late::sos) ⟨s,h⟩:=by
 subst he
 cases hy:a with
 |none=>rw[hy] at hm;cases hm
 |some y=>
  rw[hy] at hm
  obtain⟨c1,c2,c3⟩:=henc y
  refine⟨f,_,_,_,[(id,.box (fB ms (G y)))],_,rfl,hs y hy,c1, ?_, ?_,hl y,hk y hm⟩
  ·show HandL h (args.map (ev s)) _ _ _
   rw[hx]
   exact .ptr (ch:= .box (fB ms ci)) (mk:=fun id=> .ref id 0) (ch':= .box (fB ms (G y))) (mk':=fun id=> .ref id 0) rfl (by simp only[ec];exact hlen) rfl hh oS (uN hgs)
  ·simp only[takes,c2,Nr,jH]
end
section
variable {P:Program} {c:Cx} {σ:St} {κ:Nat->Value} {φ:Nat->List Nat} {a:Act} {w:World}
end
theorem rO {P:Program} {σ:St} {C S R:Type} {r:R} {Q:R->AX->St->Prop} {X x y:SC} {t:SX} (hX:X= .cond t x y) (mk:C->S->St) {c:C} {a:Option (S⊕R)} {kk:S->Option R} (hm:a.bind (dg kk)=some r)
  (hw:∀ o,a=some o->AW P (.cond t x y) (xL (mk c) Q o) σ) (hq:∀ r,sO (Q r)) (hkk:∀ s,kk s=some r->Q r .normal (mk c s)):AW P X (Q r) σ:=by
 subst hX;exact Kx mk hm hw hq hkk
theorem Le {P:Program} {s:Nat->SV} {h:Nat->Ch} {Q:AX->St->Prop} {X:SC} {slot id e sz:Nat} {α:Type} {row:α->List DV} (hs:s slot= .nils) (hk:AW P X Q ⟨ay (eF id .any s) slot (.vec id),ay (jz id .any h) id (.vec e sz (cm row []))⟩):AW P X Q ⟨s,h⟩:=yr (nm (σ:=⟨s,h⟩) hs) hk
