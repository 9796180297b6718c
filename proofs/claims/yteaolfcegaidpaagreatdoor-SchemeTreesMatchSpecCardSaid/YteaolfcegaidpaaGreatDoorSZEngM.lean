/-
  My text.
-/
import Derived.Test.YteaolfcegaidpaaGreatDoorSZEngS
namespace Go.Proofs.YteaolfcegaidpaaGreatDoor
set_option linter.unusedSimpArgs false
set_option linter.unusedVariables false
open Go.RowKit
variable {C:DV} {F:Nat->SV} {args:List SX} {as:List DV} {dst f:Nat} {h':Nat->Ch} {h5:St} {i j m:Nat} {op:Oh} {p:Prop} {t:Nat} {v:SV} {α:Type}
section
variable {P:Program} {x y:SC} {Q:AX->St->Prop} {σ:St} {s:Nat->SV} {h:Nat->Ch} {K:St->Prop} {sos:List SO}
theorem JP {t:SX} {b:Bool} (hc:ev s t= .d (.bool b)) (hx:b=true->AW P x Q ⟨s,h⟩) (hy:b=false->AW P y Q ⟨s,h⟩):AW P (.cond t x y) Q ⟨s,h⟩:=P8 (σ:=⟨s,h⟩) hc hx hy
theorem bo (G:AW P y Q σ):Mk P y Q .normal σ:=G
theorem bO (G:Q (.exit i) σ):Mk P y Q (.exit i) σ:=G
theorem bI (G:Q .ret σ):Mk P y Q .ret σ:=G
theorem a8 (G:Q .normal σ):ke i Q .normal σ:=G
theorem bE (G:Q .ret σ):ke i Q .ret σ:=G
theorem iY (G:Q .normal σ):ke i Q (.exit i) σ:=by simp only[ke,T6];exact G
theorem wT (A:j≠i) (G:Q (.exit j) σ):ke i Q (.exit j) σ:=by simp only[ke,A,Tv];exact G
theorem Ol {I:Nat->St->Prop} (m':Nat) {X:St} (h9:m'<m) (hi:cS σ X) (hI:I m' X):I3 I m Q .normal σ:=⟨m',X,h9,hi,hI⟩
theorem Mn {I:Nat->St->Prop} (G:Q (.exit i) σ):I3 I m Q (.exit i) σ:=G
theorem bm (hk:K σ):a6 P K [] σ:=hk
theorem fi {op:wh} (hr:rd h s op=some (p,v)) (hp:p) (hk:a6 P K sos ⟨aD s dst v,h⟩):a6 P K (.r dst op::sos) ⟨s,h⟩:=by
 simp only[a6,AO,hr];exact⟨hp,hk⟩
theorem SK (ha:SV.toDVs (args.map (ev s))=some as) (hs:aa P f as C) (hk:a6 P K sos ⟨aD s dst (.d C),h⟩):a6 P K (.c dst (.f f) args::sos) ⟨s,h⟩:=by
 have hl:=kU h _ _ ha
 simp only[a6,AO,ev,hl,Tg];exact⟨C,hs,.inl (by rw[ha];rfl),hk⟩
theorem Sg {caps:List DV} (hf:s t= .d (.fn f caps)) (ha:SV.toDVs (args.map (ev s))=some as) (hs:aa P f (as++caps) C) (hk:a6 P K sos ⟨aD s dst (.d C),h⟩):a6 P K (.c dst (.t t) args::sos) ⟨s,h⟩:=by
 have hl:=kU h _ _ ha
 simp only[a6,AO,ev,hf,hl];exact⟨C,hs,.inl (by rw[ha];rfl),hk⟩
theorem Sh (ha:SV.lends h (args.map (ev s))=some as) (hs:aa P f as C) (hf:C.flat=true) (hk:a6 P K sos ⟨aD s dst (.d C),h⟩):a6 P K (.c dst (.f f) args::sos) ⟨s,h⟩:=by
 simp only[a6,AO,ev,ha,Tg];exact⟨C,hs,.inr hf,hk⟩
theorem wi (G:wr ⟨s,h⟩ dst op=some (p,⟨F,h'⟩)) (hp:p) (hk:a6 P K sos ⟨F,h'⟩):a6 P K (.w dst op::sos) ⟨s,h⟩:=
 ⟨⟨s,h⟩,cS.refl _,p,_,G,hp,hk⟩
theorem Rj (hi:cS ⟨s,h⟩ h5) (G:wr h5 dst op=some (p,⟨F,h'⟩)) (hp:p) (hk:a6 P K sos ⟨F,h'⟩):a6 P K (.w dst op::sos) ⟨s,h⟩:=
 ⟨h5,hi,p,_,G,hp,hk⟩
theorem N4 {late:List (Nat×Nat×wh)} (G:wr ⟨s,h⟩ dst op=some (p,⟨F,h'⟩)) (hp:p) (hl:AL ⟨F,h'⟩ late) (hk:a6 P K sos ⟨F,h'⟩):a6 P K (.x dst op late::sos) ⟨s,h⟩:=by
 simp only[a6,AO,G];exact⟨hp,hl,hk⟩
theorem jH:AL σ []:=trivial
theorem pP {a:Nat} {op:wh} {l:List (Nat×Nat×wh)} (hr:rd h s op=some (p,v)) (hp:p) (hv:v=s t) (hl:AL ⟨s,h⟩ l):AL ⟨s,h⟩ ((a,t,op)::l):=by
 simp only[AL,Qc hr];exact⟨⟨hp,hv⟩,hl⟩
theorem Rk {dst:Option Nat} {ins outs:List SV} {C:SV} {L:List (Nat×Ch)} (hi:cS ⟨s,h⟩ h5) (hs:bB P f ins C outs) (hc:C.closed=true) (hh:HandL h5.h (args.map (ev h5.s)) ins outs L) (Y:takes h5 L dst C=some ⟨F,h'⟩) (hk:a6 P K sos ⟨F,h'⟩):a6 P K (.p dst (.f f) args::sos) ⟨s,h⟩:=
 ⟨h5,hi,f,[],ins,outs,C,L,_,rfl,by simpa using hs,hc,hh,Y,hk⟩
end
theorem Om (f:Nat->α) (i j:Nat) (v:α):aD f i v j=if j=i then v else f j:=rfl
theorem Mo (id:Nat) (o:DV) (s:Nat->SV) (j:Nat):eC id o s j=fS id o (s j):=rfl
theorem Mp (id:Nat) (o:DV) (h:Nat->Ch) (j:Nat):hT id o h j=A3 id o (h j):=rfl
theorem Si (l:List (Nat×SV)) (h:List (Nat×Ch)):(st l h).s=lk l:=rfl
theorem Sj (l:List (Nat×SV)) (h:List (Nat×Ch)):(st l h).h=lh h:=rfl
theorem Gv (id:Nat) (o:DV):∀ (r:List DV),ee id o (dR r)=dR r
 |[]=>rfl
 |d::r=>by
  have:=Gv id o r
  simp only[dR,S5,ee,fS] at *
  rw[this]
theorem Gw (id:Nat) (o:DV):∀ (rows:List (List DV)),jG id o (rows.map dR)=rows.map dR
 |[]=>rfl
 |r::rows=>by simp[jG,Gv,Gw id o rows]
theorem KX (id:Nat) (o:DV) (m:cO) (d:DV):fS id o (Cm m d)=Cm m d:=by cases m<;>rfl
theorem A8 (id:Nat) (o:DV):∀ (ms:List cO) (O:List DV),ee id o (d7 ms O)=d7 ms O
 |[],O=>by simp[d7,ee]
 |m::ms,[]=>by simp[d7,ee]
 |m::ms,d::O=>by
  have:=A8 id o ms O
  unfold d7 at *
  simp only[UU,ee,KX,this]
theorem wU (id:Nat) (o:DV):∀ (xs ys:List (List SV)),jG id o (xs++ys)=jG id o xs++jG id o ys
 |[],ys=>rfl
 |x::xs,ys=>by simp[jG,wU id o xs ys]
theorem JQ:∀ (r:List DV),SV.frzs (dR r)=some r
 |[]=>rfl
 |d::r=>by have:=JQ r;simp only[dR,S5] at *;simp only[SV.frzs,SV.frz,this]
theorem Gx:∀ (rows:List (List DV)),SV.frzR (rows.map dR)=some rows
 |[]=>rfl
 |r::rows=>by simp[SV.frzR,JQ,Gx rows]
theorem On (d:DV) (r:List DV):dR (d::r)= .d d::dR r:=rfl
theorem P_:dR []=[]:=rfl
attribute [push_cast] Dh L8 nQ SV.firm SV.firms ry cD KK.fits rd wr ev cZ St.swap Om Mo Mp fS ee A3 jG Ck Gw Gv A8 wU JO zN wO JF JG kQ BK SV.toDV SV.toDVs DV.cells? SV.cells? vh vi Hf splice lk lh Si Sj SV.noOwn SV.noOwns SV.lend SV.lends SV.lendC SV.lendCs SV.frzR SV.frzs SV.frz Gx fN yR kd takes SV.nOwn SV.nOwns SV.own1 SV.own1s SV.plug SV.plugs cL Dx uJ GE Cm SV.closed SV.closeds On P_ DV.flat DV.flats S5 Ui Uq TS List.getElem?_nil Vb U1 List.drop_nil List.take_zero Uz List.take_nil S6 TN Tb S_ List.set_cons_zero List.set_cons_succ TI T8 T_ Int.toNat_zero and_true true_and and_self ne_eq decide_not S7 Tw To S0 Ue Um not_true_eq_false not_false_eq_true Bool.and_self Bool.or_self UY S8 UL TY Bool.or_true Bool.true_or UN Tx
theorem bp (n:Int) (h1: -9223372036854775808<=n) (h2:n<=9223372036854775807):IntKind.i64.wrap n=n:=by
 rw[IntKind.wrap_i64];omega
def Rl (mk:α->St) (g:α->Nat) (I:α->Prop) (Q:AX->St->Prop) (m:Nat):AX->St->Prop
 | .normal,σ=>∃ a,g a<m/\cS σ (mk a)/\I a
 | .exit j,σ=>Q (.exit j) σ
 | .ret,σ=>Q .ret σ
section
variable {P:Program} {Q:AX->St->Prop} {σ:St} {α:Type} {mk:α->St} {g:α->Nat} {I:α->Prop} {m:Nat}
theorem Gy (G:Q (.exit j) σ):Rl mk g I Q m (.exit j) σ:=G
theorem Gz (G:Q .ret σ):Rl mk g I Q m .ret σ:=G
end
def Oo (mk:Nat->α->St) (I:Nat->α->Prop) (Q:AX->St->Prop) (k n t i:Nat) (N:Int):AX->St->Prop
 | .normal,σ=>σ.s k= .d (.int .i64 i)/\∃ a,cS ⟨aD (aD σ.s t (.d (.int .i64 ((i:Int)+1)))) k (.d (.int .i64 ((i:Int)+1))),σ.h⟩ (mk (i+1) a)/\I (i+1) a
 | .exit j,σ=>Q (.exit j) σ
 | .ret,σ=>Q .ret σ
section
variable {P:Program} {Q:AX->St->Prop} {σ:St} {α:Type} {mk:Nat->α->St} {I:Nat->α->Prop} {k n t i:Nat} {N:Int}
theorem PH {s:Nat->SV} {h:Nat->Ch} (a:α) (h1:s k= .d (.int .i64 i)) (h2:cS ⟨aD (aD s t (.d (.int .i64 ((i:Int)+1)))) k (.d (.int .i64 ((i:Int)+1))),h⟩ (mk (i+1) a)) (E:I (i+1) a):Oo mk I Q k n t i N .normal ⟨s,h⟩:=⟨h1,a,h2,E⟩
theorem GA (G:Q (.exit j) σ):Oo mk I Q k n t i N (.exit j) σ:=G
theorem GB (G:Q .ret σ):Oo mk I Q k n t i N .ret σ:=G
theorem PI {q c k n:Nat} {B:SC} (mk:Nat->α->St) (I:Nat->α->Prop) (N:Nat) (a0:α) (S:N<=4611686018427387904) (hk:∀ i a,(mk i a).s k= .d (.int .i64 i)) (hn:∀ i a,(mk i a).s n= .d (.int .i64 (N:Int))) (h0:cS σ (mk 0 a0)) (hI:I 0 a0) (body:∀ i a,i<N->I i a->AW P B (Oo mk I (ke q Q) k n t i N) ⟨aD (mk i a).s c (.d (.bool true)),(mk i a).h⟩) (done:∀ a,I N a->Q .normal ⟨aD (mk N a).s c (.d (.bool false)),(mk N a).h⟩):
  AW P (.loop (.seq (.reg [.r c (.bin .lss (.t k) (.t n))]) (.seq (.cond (.t c) .skip (.exit q)) (.seq B (.reg [.r t (.bin .add (.t k) (.c (.d (.int .i64 1)))),.r k (.mv (.t t))]))))) (ke q Q) σ:=by
 refine Ml (fun m σ=>∃ i a,i<=N/\m=N - i/\σ=mk i a/\I i a) N ⟨mk 0 a0,h0,0,a0,To _,rfl,rfl,hI⟩ ?_
 rintro m σ ⟨i,a,hi,rfl,rfl,hI⟩
 have r3:=hk i a
 have C:=hn i a
 generalize D:mk i a=σ at *
 obtain⟨s,h⟩:=σ
 dsimp only at r3 C
 refine bn (bl (fi (p:=True) (v:= .d (.bool (decide ((i:Int)<(N:Int))))) (by simp only[rd,ev,r3,C,zN,wO,T6]) trivial (bm (bo (bn (JP (b:=decide ((i:Int)<(N:Int))) (by simp[ev,aD]) (fun hb=> ?_) (fun hb=> ?_)))))))
 ·have h6:i<N:=by simpa using hb
  simp only[hb]
  refine aZ (bo (bn ?_))
  have u:=body i a h6 hI
  rw[D] at u
  refine A7 ?_ u
  rintro e ⟨F,h'⟩ J
  cases e with
  |normal=>
   obtain⟨h1,a',h2,E⟩:=J
   dsimp only at h1 h2 E
   have G:IntKind.i64.wrap ((i:Int)+1)=(i:Int)+1:=bp _ oM oM
   refine bo (bl (fi (p:=True) (v:= .d (.int .i64 ((i:Int)+1))) (by simp only[rd,ev,h1,zN,wO,G,T6]) trivial (fi (p:=True) (v:= .d (.int .i64 ((i:Int)+1))) (by simp[rd,ev,aD]) trivial (bm ?_))))
   exact Ol (N - (i+1)) oM h2 ⟨i+1,a',by omega,rfl,rfl,E⟩
  |exit j=>exact J
  |ret=>exact J
 ·have h6:i=N:=by simp at hb;omega
  subst h6
  simp only[hb]
  have:=done a hI
  rw[D] at this
  exact bN (bO (Mn (iY this)))
end
