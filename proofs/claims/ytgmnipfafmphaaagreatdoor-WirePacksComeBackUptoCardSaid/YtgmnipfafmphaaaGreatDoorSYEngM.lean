/-
  My text.
-/
import Derived.Test.YtgmnipfafmphaaaGreatDoorSYEngS
namespace Go.Proofs.YtgmnipfafmphaaaGreatDoor
set_option linter.unusedSimpArgs false
set_option linter.unusedVariables false
open Go.RowKit
variable {args:List SX} {as:List DV} {dst f:Nat} {h':Nat->Ch} {i j m:Nat} {op:NB} {p:Prop} {res:DV} {s':Nat->SV} {t:Nat} {v:SV} {α:Type}
section
variable {P:Program} {x y:SC} {Q:AX->St->Prop} {σ:St} {s:Nat->SV} {h:Nat->Ch} {K:St->Prop} {sos:List SO}
theorem H_ {t:SX} {b:Bool} (hc:ev s t= .d (.bool b)) (hx:b=true->AW P x Q ⟨s,h⟩) (hy:b=false->AW P y Q ⟨s,h⟩):AW P (.cond t x y) Q ⟨s,h⟩:=PU (σ:=⟨s,h⟩) hc hx hy
theorem cE (G:AW P y Q σ):Lb P y Q .normal σ:=G
theorem cO (G:Q (.exit i) σ):Lb P y Q (.exit i) σ:=G
theorem dF (G:Q .ret σ):Lb P y Q .ret σ:=G
theorem bD (G:Q .normal σ):mE i Q .normal σ:=G
theorem cR (G:Q .ret σ):mE i Q .ret σ:=G
theorem od (G:Q .normal σ):mE i Q (.exit i) σ:=by simp only[mE,TB];exact G
theorem sH (U:j≠i) (G:Q (.exit j) σ):mE i Q (.exit j) σ:=by simp only[mE,U,Tq];exact G
theorem NG {I:Nat->St->Prop} (m':Nat) {O:St} (X:m'<m) (hi:bm σ O) (hI:I m' O):G8 I m Q .normal σ:=⟨m',O,X,hi,hI⟩
theorem Ld {I:Nat->St->Prop} (G:Q (.exit i) σ):G8 I m Q (.exit i) σ:=G
theorem cw (hk:K σ):aD P K [] σ:=hk
theorem iC {op:oX} (D:rd h s op=some (p,v)) (Y:p) (hk:aD P K sos ⟨am s dst v,h⟩):aD P K (.r dst op::sos) ⟨s,h⟩:=by
 simp only[aD,AO,D];exact⟨Y,hk⟩
theorem SK (ha:SV.toDVs (args.map (ev s))=some as) (hs:ac P f as res) (hk:aD P K sos ⟨am s dst (.d res),h⟩):aD P K (.c dst (.f f) args::sos) ⟨s,h⟩:=by
 have hl:=i7 h _ _ ha
 simp only[aD,AO,ev,hl,Tg];exact⟨res,hs,.inl (by rw[ha];rfl),hk⟩
theorem R5 {caps:List DV} (C:s t= .d (.fn f caps)) (ha:SV.toDVs (args.map (ev s))=some as) (hs:ac P f (as++caps) res) (hk:aD P K sos ⟨am s dst (.d res),h⟩):aD P K (.c dst (.t t) args::sos) ⟨s,h⟩:=by
 have hl:=i7 h _ _ ha
 simp only[aD,AO,ev,C,hl];exact⟨res,hs,.inl (by rw[ha];rfl),hk⟩
theorem uB (G:wr ⟨s,h⟩ dst op=some (p,⟨s',h'⟩)) (Y:p) (hk:aD P K sos ⟨s',h'⟩):aD P K (.w dst op::sos) ⟨s,h⟩:=
 ⟨⟨s,h⟩,bm.refl _,p,_,G,Y,hk⟩
theorem PW {j:St} (hi:bm ⟨s,h⟩ j) (G:wr j dst op=some (p,⟨s',h'⟩)) (Y:p) (hk:aD P K sos ⟨s',h'⟩):aD P K (.w dst op::sos) ⟨s,h⟩:=
 ⟨j,hi,p,_,G,Y,hk⟩
theorem B2 {late:List (Nat×Nat×oX)} (G:wr ⟨s,h⟩ dst op=some (p,⟨s',h'⟩)) (Y:p) (hl:oQ ⟨s',h'⟩ late) (hk:aD P K sos ⟨s',h'⟩):aD P K (.x dst op late::sos) ⟨s,h⟩:=by
 simp only[aD,AO,G];exact⟨Y,hl,hk⟩
theorem bV:oQ σ []:=trivial
theorem cn {a:Nat} {op:oX} {l:List (Nat×Nat×oX)} (D:rd h s op=some (p,v)) (Y:p) (hv:v=s t) (hl:oQ ⟨s,h⟩ l):oQ ⟨s,h⟩ ((a,t,op)::l):=by
 simp only[oQ,PY D];exact⟨⟨Y,hv⟩,hl⟩
theorem Ra {dst:Option Nat} {ins outs:List SV} {res:SV} {L:List (Nat×Ch)} {j:St} (hi:bm ⟨s,h⟩ j) (hs:bu P f ins res outs) (hc:res.closed=true) (hh:HandL j.h (args.map (ev j.s)) ins outs L) (ht:takes j L dst res=some ⟨s',h'⟩) (hk:aD P K sos ⟨s',h'⟩):aD P K (.p dst (.f f) args::sos) ⟨s,h⟩:=
 ⟨j,hi,f,[],ins,outs,res,L,_,rfl,by simpa using hs,hc,hh,ht,hk⟩
end
theorem NH (f:Nat->α) (i j:Nat) (v:α):am f i v j=if j=i then v else f j:=rfl
theorem Le (id:Nat) (o:DV) (s:Nat->SV) (j:Nat):bl id o s j=c8 id o (s j):=rfl
theorem Lf (id:Nat) (o:DV) (h:Nat->Ch) (j:Nat):bG id o h j=jY id o (h j):=rfl
theorem R6 (l:List (Nat×SV)) (h:List (Nat×Ch)):(st l h).s=lk l:=rfl
theorem R7 (l:List (Nat×SV)) (h:List (Nat×Ch)):(st l h).h=lh h:=rfl
theorem D6 (id:Nat) (o:DV):∀ (r:List DV),cm id o (dR r)=dR r
 |[]=>rfl
 |d::r=>by
  have:=D6 id o r
  simp only[dR,Tc,cm,c8] at *
  rw[this]
theorem D7 (id:Nat) (o:DV):∀ (rows:List (List DV)),c0 id o (rows.map dR)=rows.map dR
 |[]=>rfl
 |r::rows=>by simp[c0,D6,D7 id o rows]
theorem Ju (id:Nat) (o:DV) (m:bj) (d:DV):c8 id o (sJ m d)=sJ m d:=by cases m<;>rfl
theorem tX (id:Nat) (o:DV):∀ (ms:List bj) (J:List DV),cm id o (bi ms J)=bi ms J
 |[],J=>by simp[bi,cm]
 |m::ms,[]=>by simp[bi,cm]
 |m::ms,d::J=>by
  have:=tX id o ms J
  unfold bi at *
  simp only[UN,cm,Ju,this]
theorem mY (id:Nat) (o:DV):∀ (xs ys:List (List SV)),c0 id o (xs++ys)=c0 id o xs++c0 id o ys
 |[],ys=>rfl
 |x::xs,ys=>by simp[c0,mY id o xs ys]
theorem CV (id:Nat) (o:DV):∀ (xs:List (List SV)) (n:Nat),c0 id o (xs.take n)=(c0 id o xs).take n
 |[],n=>by simp[c0]
 |x::xs,0=>by simp[c0]
 |x::xs,n+1=>by simp[c0,CV id o xs n]
theorem sI (id:Nat) (o:DV) (r:List SV):∀ (xs:List (List SV)) (n:Nat),c0 id o (xs.set n r)=(c0 id o xs).set n (cm id o r)
 |[],n=>by simp[c0]
 |x::xs,0=>by simp[c0]
 |x::xs,n+1=>by simp[c0,sI id o r xs n]
theorem Ia:∀ (r:List DV),SV.frzs (dR r)=some r
 |[]=>rfl
 |d::r=>by have:=Ia r;simp only[dR,Tc] at *;simp only[SV.frzs,SV.frz,this]
theorem D8:∀ (rows:List (List DV)),SV.frzR (rows.map dR)=some rows
 |[]=>rfl
 |r::rows=>by simp[SV.frzR,Ia,D8 rows]
theorem Lg {m:bj} {d:DV} (h:m.plain=true):SV.frz (sJ m d)=some d:=by
 cases m with
 |sh=>rfl
 |sl e ms=>simp only[sJ,SV.frz,h,TB]
 |pt ms=>simp only[sJ,SV.frz,h,TB]
 |mp kk m=>simp[bj.plain] at h
 |bld T e=>simp[bj.plain] at h
theorem CW:∀ {ms:List bj} {J:List DV},bj.plains ms=true->J.length=ms.length->SV.frzs (bi ms J)=some J
 |[],J,_,hl=>by have:J=[]:=Ta.1 hl;subst this;rfl
 |m::ms,[],_,hl=>by simp at hl
 |m::ms,d::J,Y,hl=>by
  simp only[bj.plains,SR] at Y
  have:=CW (ms:=ms) (J:=J) Y.2 (by simpa using hl)
  unfold bi at *
  simp only[UN,SV.frzs,Lg Y.1,this]
theorem CX {ms:List bj} (Y:bj.plains ms=true):∀ {rows:List (List DV)},(∀ r∈rows,r.length=ms.length)->SV.frzR (rows.map (bi ms))=some rows
 |[],_=>rfl
 |r::rows,h=>by
  have:=CX Y (rows:=rows) (fun r D=>h r (by simp[D]))
  simp only[Tc,SV.frzR,CW Y (h r oS),this]
theorem NI (d:DV) (r:List DV):dR (d::r)= .d d::dR r:=rfl
theorem PX:dR []=[]:=rfl
attribute [push_cast] ly SV.firm SV.firms nG ci KK.fits rd wr ev cy St.swap NH Le Lf c8 cm jY c0 sD D7 D6 tX mY CV sI H9 yV uz KX H0 iX yj SV.toDV SV.toDVs DV.cells? SV.cells? q8 q9 zu splice lk lh R6 R7 SV.noOwn SV.noOwns SV.lend SV.lends SV.lendC SV.lendCs SV.frzR SV.frzs SV.frz D8 eQ pM iT takes SV.nOwn SV.nOwns SV.own1 SV.own1s SV.plug SV.plugs cf rb jZ sK sJ SV.closed SV.closeds NI PX DV.flat DV.flats Tc Ug Tz TO List.getElem?_nil U5 U_ List.drop_nil List.take_zero UH List.take_nil ST S3 S8 Td U1 List.set_cons_succ TU UL Ue Int.toNat_zero and_true true_and and_self ne_eq decide_not S9 Tm TK SZ TA UO not_true_eq_false not_false_eq_true UX UB Bool.and_true T1 Bool.and_false Vg Bool.or_true Bool.true_or Bool.or_false T7
theorem bh (n:Int) (h1: -9223372036854775808<=n) (h2:n<=9223372036854775807):IntKind.i64.wrap n=n:=by
 rw[IntKind.wrap_i64];omega
def Rb (mk:α->St) (g:α->Nat) (I:α->Prop) (Q:AX->St->Prop) (m:Nat):AX->St->Prop
 | .normal,σ=>∃ a,g a<m/\bm σ (mk a)/\I a
 | .exit j,σ=>Q (.exit j) σ
 | .ret,σ=>Q .ret σ
section
variable {P:Program} {Q:AX->St->Prop} {σ:St} {α:Type} {mk:α->St} {g:α->Nat} {I:α->Prop} {m:Nat}
theorem D9 (G:Q (.exit j) σ):Rb mk g I Q m (.exit j) σ:=G
theorem D_ (G:Q .ret σ):Rb mk g I Q m .ret σ:=G
end
def NJ (mk:Nat->α->St) (I:Nat->α->Prop) (Q:AX->St->Prop) (k n t i:Nat) (N:Int):AX->St->Prop
 | .normal,σ=>σ.s k= .d (.int .i64 i)/\∃ a,bm ⟨am (am σ.s t (.d (.int .i64 ((i:Int)+1)))) k (.d (.int .i64 ((i:Int)+1))),σ.h⟩ (mk (i+1) a)/\I (i+1) a
 | .exit j,σ=>Q (.exit j) σ
 | .ret,σ=>Q .ret σ
section
variable {P:Program} {Q:AX->St->Prop} {σ:St} {α:Type} {mk:Nat->α->St} {I:Nat->α->Prop} {k n t i:Nat} {N:Int}
theorem O8 {s:Nat->SV} {h:Nat->Ch} (a:α) (h1:s k= .d (.int .i64 i)) (h2:bm ⟨am (am s t (.d (.int .i64 ((i:Int)+1)))) k (.d (.int .i64 ((i:Int)+1))),h⟩ (mk (i+1) a)) (E:I (i+1) a):NJ mk I Q k n t i N .normal ⟨s,h⟩:=⟨h1,a,h2,E⟩
theorem Ea (G:Q (.exit j) σ):NJ mk I Q k n t i N (.exit j) σ:=G
theorem Eb (G:Q .ret σ):NJ mk I Q k n t i N .ret σ:=G
theorem O9 {q c k n:Nat} {B:SC} (mk:Nat->α->St) (I:Nat->α->Prop) (N:Nat) (a0:α) (F:N<=4611686018427387904) (hk:∀ i a,(mk i a).s k= .d (.int .i64 i)) (hn:∀ i a,(mk i a).s n= .d (.int .i64 (N:Int))) (h0:bm σ (mk 0 a0)) (hI:I 0 a0) (body:∀ i a,i<N->I i a->AW P B (NJ mk I (mE q Q) k n t i N) ⟨am (mk i a).s c (.d (.bool true)),(mk i a).h⟩) (done:∀ a,I N a->Q .normal ⟨am (mk N a).s c (.d (.bool false)),(mk N a).h⟩):
  AW P (.loop (.seq (.reg [.r c (.bin .lss (.t k) (.t n))]) (.seq (.cond (.t c) .skip (.exit q)) (.seq B (.reg [.r t (.bin .add (.t k) (.c (.d (.int .i64 1)))),.r k (.mv (.t t))]))))) (mE q Q) σ:=by
 refine Lc (fun m σ=>∃ i a,i<=N/\m=N - i/\σ=mk i a/\I i a) N ⟨mk 0 a0,h0,0,a0,TK _,rfl,rfl,hI⟩ ?_
 rintro m σ ⟨i,a,hi,rfl,rfl,hI⟩
 have r2:=hk i a
 have A:=hn i a
 generalize f:mk i a=σ at *
 obtain⟨s,h⟩:=σ
 dsimp only at r2 A
 refine cC (cv (iC (p:=True) (v:= .d (.bool (decide ((i:Int)<(N:Int))))) (by simp only[rd,ev,r2,A,yV,uz,TB]) trivial (cw (cE (cC (H_ (b:=decide ((i:Int)<(N:Int))) (by simp[ev,am]) (fun hb=> ?_) (fun hb=> ?_)))))))
 ·have h6:i<N:=by simpa using hb
  simp only[hb]
  refine b5 (cE (cC ?_))
  have d:=body i a h6 hI
  rw[f] at d
  refine D3 ?_ d
  rintro e ⟨s',h'⟩ he
  cases e with
  |normal=>
   obtain⟨h1,a',h2,E⟩:=he
   dsimp only at h1 h2 E
   have G:IntKind.i64.wrap ((i:Int)+1)=(i:Int)+1:=bh _ oM oM
   refine cE (cv (iC (p:=True) (v:= .d (.int .i64 ((i:Int)+1))) (by simp only[rd,ev,h1,yV,uz,G,TB]) trivial (iC (p:=True) (v:= .d (.int .i64 ((i:Int)+1))) (by simp[rd,ev,am]) trivial (cw ?_))))
   exact NG (N - (i+1)) oM h2 ⟨i+1,a',by omega,rfl,rfl,E⟩
  |exit j=>exact he
  |ret=>exact he
 ·have h6:i=N:=by simp at hb;omega
  subst h6
  simp only[hb]
  have:=done a hI
  rw[f] at this
  exact cN (cO (Ld (od this)))
end
end Go.Proofs.YtgmnipfafmphaaaGreatDoor

