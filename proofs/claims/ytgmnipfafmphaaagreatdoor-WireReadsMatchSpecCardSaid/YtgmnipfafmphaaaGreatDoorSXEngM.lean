/-
  My text.
-/
import Derived.Test.YtgmnipfafmphaaaGreatDoorSXEngS
namespace Go.Proofs.YtgmnipfafmphaaaGreatDoor
set_option linter.unusedSimpArgs false
set_option linter.unusedVariables false
open Go.RowKit
variable {args:List SX} {as:List DV} {dst f:Nat} {h':Nat->Ch} {i j m:Nat} {op:Pq} {p:Prop} {res:DV} {s':Nat->SV} {t:Nat} {v:SV} {z:St} {α:Type}
section
variable {P:Program} {x y:SC} {Q:AX->St->Prop} {σ:St} {s:Nat->SV} {h:Nat->Ch} {K:St->Prop} {sos:List SO}
theorem Gy {t:SX} {b:Bool} (hc:ev s t= .d (.bool b)) (hx:b=true->AW P x Q ⟨s,h⟩) (hy:b=false->AW P y Q ⟨s,h⟩):AW P (.cond t x y) Q ⟨s,h⟩:=RH (σ:=⟨s,h⟩) hc hx hy
theorem Pw {t:SX} (hc:ev s t= .d (.bool true)) (hx:AW P x Q ⟨s,h⟩):AW P (.cond t x y) Q ⟨s,h⟩:=Gy hc (fun _=>hx) (fun h=>by cases h)
theorem cF (G:AW P y Q σ):Na P y Q .normal σ:=G
theorem cO (G:Q (.exit i) σ):Na P y Q (.exit i) σ:=G
theorem ee (G:Q .ret σ):Na P y Q .ret σ:=G
theorem bC (G:Q .normal σ):pG i Q .normal σ:=G
theorem dq (G:Q .ret σ):pG i Q .ret σ:=G
theorem p3 (G:Q .normal σ):pG i Q (.exit i) σ:=by simp only[pG,VW];exact G
theorem oB (U:j≠i) (G:Q (.exit j) σ):pG i Q (.exit j) σ:=by simp only[pG,U,VQ];exact G
theorem Px {I:Nat->St->Prop} (m':Nat) {O:St} (h9:m'<m) (hi:bt σ O) (hI:I m' O):Jt I m Q .normal σ:=⟨m',O,h9,hi,hI⟩
theorem Nc {I:Nat->St->Prop} (G:Q (.exit i) σ):Jt I m Q (.exit i) σ:=G
theorem cn (hk:K σ):aI P K [] σ:=hk
theorem jj {op:sA} (D:rd h s op=some (p,v)) (Y:p) (hk:aI P K sos ⟨ap s dst v,h⟩):aI P K (.r dst op::sos) ⟨s,h⟩:=by
 simp only[aI,AO,D];exact⟨Y,hk⟩
theorem Vc (ha:SV.toDVs (args.map (ev s))=some as) (hs:ac P f as res) (hk:aI P K sos ⟨ap s dst (.d res),h⟩):aI P K (.c dst (.f f) args::sos) ⟨s,h⟩:=by
 have hl:=l5 h _ _ ha
 simp only[aI,AO,ev,hl,VL];exact⟨res,hs,.inl (by rw[ha];rfl),hk⟩
theorem Uz {caps:List DV} (C:s t= .d (.fn f caps)) (ha:SV.toDVs (args.map (ev s))=some as) (hs:ac P f (as++caps) res) (hk:aI P K sos ⟨ap s dst (.d res),h⟩):aI P K (.c dst (.t t) args::sos) ⟨s,h⟩:=by
 have hl:=l5 h _ _ ha
 simp only[aI,AO,ev,C,hl];exact⟨res,hs,.inl (by rw[ha];rfl),hk⟩
theorem UA (ha:SV.lends h (args.map (ev s))=some as) (hs:ac P f as res) (C:res.flat=true) (hk:aI P K sos ⟨ap s dst (.d res),h⟩):aI P K (.c dst (.f f) args::sos) ⟨s,h⟩:=by
 simp only[aI,AO,ev,ha,VL];exact⟨res,hs,.inr C,hk⟩
theorem tD (G:wr ⟨s,h⟩ dst op=some (p,⟨s',h'⟩)) (Y:p) (hk:aI P K sos ⟨s',h'⟩):aI P K (.w dst op::sos) ⟨s,h⟩:=
 ⟨⟨s,h⟩,bt.refl _,p,_,G,Y,hk⟩
theorem Py (hi:bt ⟨s,h⟩ z) (G:wr z dst op=some (p,⟨s',h'⟩)) (Y:p) (hk:aI P K sos ⟨s',h'⟩):aI P K (.w dst op::sos) ⟨s,h⟩:=
 ⟨z,hi,p,_,G,Y,hk⟩
theorem Bj {late:List (Nat×Nat×sA)} (G:wr ⟨s,h⟩ dst op=some (p,⟨s',h'⟩)) (Y:p) (hl:su ⟨s',h'⟩ late) (hk:aI P K sos ⟨s',h'⟩):aI P K (.x dst op late::sos) ⟨s,h⟩:=by
 simp only[aI,AO,G];exact⟨Y,hl,hk⟩
theorem j9:su σ []:=trivial
theorem lj {a:Nat} {op:sA} {l:List (Nat×Nat×sA)} (D:rd h s op=some (p,v)) (Y:p) (hv:v=s t) (hl:su ⟨s,h⟩ l):su ⟨s,h⟩ ((a,t,op)::l):=by
 simp only[su,RL D];exact⟨⟨Y,hv⟩,hl⟩
theorem Um {dst:Option Nat} {ins outs:List SV} {res:SV} {L:List (Nat×Ch)} (hi:bt ⟨s,h⟩ z) (hs:bw P f ins res outs) (hc:res.closed=true) (hh:HandL z.h (args.map (ev z.s)) ins outs L) (ht:takes z L dst res=some ⟨s',h'⟩) (hk:aI P K sos ⟨s',h'⟩):aI P K (.p dst (.f f) args::sos) ⟨s,h⟩:=
 ⟨z,hi,f,[],ins,outs,res,L,_,rfl,by simpa using hs,hc,hh,ht,hk⟩
end
theorem Pz (f:Nat->α) (i j:Nat) (v:α):ap f i v j=if j=i then v else f j:=rfl
theorem Nd (id:Nat) (o:DV) (s:Nat->SV) (j:Nat):bG id o s j=d6 id o (s j):=rfl
theorem Nf (id:Nat) (o:DV) (h:Nat->Ch) (j:Nat):bK id o h j=mj id o (h j):=rfl
theorem UB (l:List (Nat×SV)) (h:List (Nat×Ch)):(st l h).s=lk l:=rfl
theorem UC (l:List (Nat×SV)) (h:List (Nat×Ch)):(st l h).h=lh h:=rfl
theorem Gz (id:Nat) (o:DV):∀ (r:List DV),ck id o (dR r)=dR r
 |[]=>rfl
 |d::r=>by
  have:=Gz id o r
  simp only[dR,VF,ck,d6] at *
  rw[this]
theorem GA (id:Nat) (o:DV):∀ (rows:List (List DV)),dz id o (rows.map dR)=rows.map dR
 |[]=>rfl
 |r::rows=>by simp[dz,Gz,GA id o rows]
theorem LB (id:Nat) (o:DV) (m:bH) (d:DV):d6 id o (vY m d)=vY m d:=by cases m<;>rfl
theorem xk (id:Nat) (o:DV):∀ (ms:List bH) (J:List DV),ck id o (bA ms J)=bA ms J
 |[],J=>by simp[bA,ck]
 |m::ms,[]=>by simp[bA,ck]
 |m::ms,d::J=>by
  have:=xk id o ms J
  unfold bA at *
  simp only[Xf,ck,LB,this]
theorem nO (id:Nat) (o:DV):∀ (xs ys:List (List SV)),dz id o (xs++ys)=dz id o xs++dz id o ys
 |[],ys=>rfl
 |x::xs,ys=>by simp[dz,nO id o xs ys]
theorem Fn (id:Nat) (o:DV):∀ (xs:List (List SV)) (n:Nat),dz id o (xs.take n)=(dz id o xs).take n
 |[],n=>by simp[dz]
 |x::xs,0=>by simp[dz]
 |x::xs,n+1=>by simp[dz,Fn id o xs n]
theorem tR (id:Nat) (o:DV) (r:List SV):∀ (xs:List (List SV)) (n:Nat),dz id o (xs.set n r)=(dz id o xs).set n (ck id o r)
 |[],n=>by simp[dz]
 |x::xs,0=>by simp[dz]
 |x::xs,n+1=>by simp[dz,tR id o r xs n]
theorem Kw:∀ (r:List DV),SV.frzs (dR r)=some r
 |[]=>rfl
 |d::r=>by have:=Kw r;simp only[dR,VF] at *;simp only[SV.frzs,SV.frz,this]
theorem GB:∀ (rows:List (List DV)),SV.frzR (rows.map dR)=some rows
 |[]=>rfl
 |r::rows=>by simp[SV.frzR,Kw,GB rows]
theorem Ng {m:bH} {d:DV} (h:m.plain=true):SV.frz (vY m d)=some d:=by
 cases m with
 |sh=>rfl
 |sl e ms=>simp only[vY,SV.frz,h,VW]
 |pt ms=>simp only[vY,SV.frz,h,VW]
 |mp kk m=>simp[bH.plain] at h
 |bld T e=>simp[bH.plain] at h
theorem Fo:∀ {ms:List bH} {J:List DV},bH.plains ms=true->J.length=ms.length->SV.frzs (bA ms J)=some J
 |[],J,_,hl=>by have:J=[]:=Vx.1 hl;subst this;rfl
 |m::ms,[],_,hl=>by simp at hl
 |m::ms,d::J,Y,hl=>by
  simp only[bH.plains,Vj] at Y
  have:=Fo (ms:=ms) (J:=J) Y.2 (by simpa using hl)
  unfold bA at *
  simp only[Xf,SV.frzs,Ng Y.1,this]
theorem Fp {ms:List bH} (Y:bH.plains ms=true):∀ {rows:List (List DV)},(∀ r∈rows,r.length=ms.length)->SV.frzR (rows.map (bA ms))=some rows
 |[],_=>rfl
 |r::rows,h=>by
  have:=Fp Y (rows:=rows) (fun r D=>h r (by simp[D]))
  simp only[VF,SV.frzR,Fo Y (h r oS),this]
theorem PB (d:DV) (r:List DV):dR (d::r)= .d d::dR r:=rfl
theorem RJ:dR []=[]:=rfl
attribute [push_cast] ou SV.firm SV.firms xh c4 KK.fits rd wr ev dh St.swap Pz Nd Nf d6 ck mj dz vT GA Gz xk nO Fn tR Kv BL xR MU Km lY A5 SV.toDV SV.toDVs DV.cells? SV.cells? us ut Cf splice lk lh UB UC SV.noOwn SV.noOwns SV.lend SV.lends SV.lendC SV.lendCs SV.frzR SV.frzs SV.frz GB f_ sM l0 takes SV.nOwn SV.nOwns SV.own1 SV.own1s SV.plug SV.plugs cP uy mm ux vY SV.closed SV.closeds PB RJ DV.flat DV.flats VF WG VZ Wl List.getElem?_nil XA XE List.drop_nil List.take_zero Xd List.take_nil Vk Vp VC VG Xi List.set_cons_succ Wi W8 Ww Int.toNat_zero and_true true_and and_self ne_eq decide_not Vt VB V0 Vs VS Xh not_true_eq_false not_false_eq_true W7 Xn Xb V3 XB XM Bool.or_true Bool.true_or Bool.or_false Wm
theorem bk (n:Int) (h1: -9223372036854775808<=n) (h2:n<=9223372036854775807):IntKind.i64.wrap n=n:=by
 rw[IntKind.wrap_i64];omega
def Tn (mk:α->St) (g:α->Nat) (I:α->Prop) (Q:AX->St->Prop) (m:Nat):AX->St->Prop
 | .normal,σ=>∃ a,g a<m/\bt σ (mk a)/\I a
 | .exit j,σ=>Q (.exit j) σ
 | .ret,σ=>Q .ret σ
section
variable {P:Program} {Q:AX->St->Prop} {σ:St} {α:Type} {mk:α->St} {g:α->Nat} {I:α->Prop} {m:Nat}
theorem GC (G:Q (.exit j) σ):Tn mk g I Q m (.exit j) σ:=G
theorem GD (G:Q .ret σ):Tn mk g I Q m .ret σ:=G
end
def PC (mk:Nat->α->St) (I:Nat->α->Prop) (Q:AX->St->Prop) (k n t i:Nat) (N:Int):AX->St->Prop
 | .normal,σ=>σ.s k= .d (.int .i64 i)/\∃ a,bt ⟨ap (ap σ.s t (.d (.int .i64 ((i:Int)+1)))) k (.d (.int .i64 ((i:Int)+1))),σ.h⟩ (mk (i+1) a)/\I (i+1) a
 | .exit j,σ=>Q (.exit j) σ
 | .ret,σ=>Q .ret σ
section
variable {P:Program} {Q:AX->St->Prop} {σ:St} {α:Type} {mk:Nat->α->St} {I:Nat->α->Prop} {k n t i:Nat} {N:Int}
theorem QT {s:Nat->SV} {h:Nat->Ch} (a:α) (h1:s k= .d (.int .i64 i)) (h2:bt ⟨ap (ap s t (.d (.int .i64 ((i:Int)+1)))) k (.d (.int .i64 ((i:Int)+1))),h⟩ (mk (i+1) a)) (E:I (i+1) a):PC mk I Q k n t i N .normal ⟨s,h⟩:=⟨h1,a,h2,E⟩
theorem GE (G:Q (.exit j) σ):PC mk I Q k n t i N (.exit j) σ:=G
theorem GF (G:Q .ret σ):PC mk I Q k n t i N .ret σ:=G
theorem QU {F c k n:Nat} {B:SC} (mk:Nat->α->St) (I:Nat->α->Prop) (N:Nat) (a0:α) (hN:N<=4611686018427387904) (hk:∀ i a,(mk i a).s k= .d (.int .i64 i)) (hn:∀ i a,(mk i a).s n= .d (.int .i64 (N:Int))) (h0:bt σ (mk 0 a0)) (hI:I 0 a0) (body:∀ i a,i<N->I i a->AW P B (PC mk I (pG F Q) k n t i N) ⟨ap (mk i a).s c (.d (.bool true)),(mk i a).h⟩) (done:∀ a,I N a->Q .normal ⟨ap (mk N a).s c (.d (.bool false)),(mk N a).h⟩):
  AW P (.loop (.seq (.reg [.r c (.bin .lss (.t k) (.t n))]) (.seq (.cond (.t c) .skip (.exit F)) (.seq B (.reg [.r t (.bin .add (.t k) (.c (.d (.int .i64 1)))),.r k (.mv (.t t))]))))) (pG F Q) σ:=by
 refine Nb (fun m σ=>∃ i a,i<=N/\m=N - i/\σ=mk i a/\I i a) N ⟨mk 0 a0,h0,0,a0,V0 _,rfl,rfl,hI⟩ ?_
 rintro m σ ⟨i,a,hi,rfl,rfl,hI⟩
 have r5:=hk i a
 have A:=hn i a
 generalize f:mk i a=σ at *
 obtain⟨s,h⟩:=σ
 dsimp only at r5 A
 refine cE (cm (jj (p:=True) (v:= .d (.bool (decide ((i:Int)<(N:Int))))) (by simp only[rd,ev,r5,A,BL,xR,VW]) trivial (cn (cF (cE (Gy (b:=decide ((i:Int)<(N:Int))) (by simp[ev,ap]) (fun hb=> ?_) (fun hb=> ?_)))))))
 ·have h6:i<N:=by simpa using hb
  simp only[hb]
  refine bR (cF (cE ?_))
  have r:=body i a h6 hI
  rw[f] at r
  refine Gv ?_ r
  rintro e ⟨s',h'⟩ he
  cases e with
  |normal=>
   obtain⟨h1,a',h2,E⟩:=he
   dsimp only at h1 h2 E
   have G:IntKind.i64.wrap ((i:Int)+1)=(i:Int)+1:=bk _ oM oM
   refine cF (cm (jj (p:=True) (v:= .d (.int .i64 ((i:Int)+1))) (by simp only[rd,ev,h1,BL,xR,G,VW]) trivial (jj (p:=True) (v:= .d (.int .i64 ((i:Int)+1))) (by simp[rd,ev,ap]) trivial (cn ?_))))
   exact Px (N - (i+1)) oM h2 ⟨i+1,a',by omega,rfl,rfl,E⟩
  |exit j=>exact he
  |ret=>exact he
 ·have h6:i=N:=by simp at hb;omega
  subst h6
  simp only[hb]
  have:=done a hI
  rw[f] at this
  exact cN (cO (Nc (p3 this)))
end
