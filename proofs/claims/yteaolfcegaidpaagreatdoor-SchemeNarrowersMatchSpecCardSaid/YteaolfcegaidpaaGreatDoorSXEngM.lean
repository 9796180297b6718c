/-
  My text.
-/
import Derived.Test.YteaolfcegaidpaaGreatDoorSXEngS
namespace Go.Proofs.YteaolfcegaidpaaGreatDoor
set_option linter.unusedSimpArgs false
set_option linter.unusedVariables false
open Go.RowKit
section
variable {P:Program} {x y:SC} {Q:AX->St->Prop} {σ:St} {s:Nat->SV} {h:Nat->Ch} {K:St->Prop} {sos:List SO}
theorem IP {t:SX} {b:Bool} (hc:ev s t= .d (.bool b)) (hx:b=true->AW P x Q ⟨s,h⟩) (hy:b=false->AW P y Q ⟨s,h⟩):AW P (.cond t x y) Q ⟨s,h⟩:=Ka (σ:=⟨s,h⟩) hc hx hy
theorem bG (hw:AW P y Q σ):Hn P y Q .normal σ:=hw
theorem cj {i:Nat} (hw:Q (.exit i) σ):Hn P y Q (.exit i) σ:=hw
theorem bA (hw:Q .ret σ):Hn P y Q .ret σ:=hw
theorem br {i:Nat} (hw:Q .normal σ):kw i Q .normal σ:=hw
theorem bv {i:Nat} (hw:Q .ret σ):kw i Q .ret σ:=hw
theorem nW {i:Nat} (hw:Q .normal σ):kw i Q (.exit i) σ:=by simp only[kw,Nr];exact hw
theorem Hp {i j:Nat} (hne:j≠i) (hw:Q (.exit j) σ):kw i Q (.exit j) σ:=by simp only[kw,hne,MZ];exact hw
theorem bw (hk:K σ):ba P K [] σ:=hk
theorem iE {dst:Nat} {op:sM} {p:Prop} {v:SV} (hr:rd h s op=some (p,v)) (hp:p) (hk:ba P K sos ⟨ay s dst v,h⟩):ba P K (.r dst op::sos) ⟨s,h⟩:=by
 simp only[ba,AO,hr];exact⟨hp,hk⟩
theorem L4 {dst f:Nat} {args:List SX} {as:List DV} {res:DV} (ha:SV.toDVs (args.map (ev s))=some as) (hs:aa P f as res) (hk:ba P K sos ⟨ay s dst (.d res),h⟩):ba P K (.c dst (.f f) args::sos) ⟨s,h⟩:=by
 have hl:=jI h _ _ ha
 simp only[ba,AO,ev,hl,Mw];exact⟨res,hs,.inl (by rw[ha];rfl),hk⟩
theorem LM {dst t f:Nat} {args:List SX} {as caps:List DV} {res:DV} (hf:s t= .d (.fn f caps)) (ha:SV.toDVs (args.map (ev s))=some as) (hs:aa P f (as++caps) res) (hk:ba P K sos ⟨ay s dst (.d res),h⟩):ba P K (.c dst (.t t) args::sos) ⟨s,h⟩:=by
 have hl:=jI h _ _ ha
 simp only[ba,AO,ev,hf,hl];exact⟨res,hs,.inl (by rw[ha];rfl),hk⟩
theorem LN {dst f:Nat} {args:List SX} {as:List DV} {res:DV} (ha:SV.lends h (args.map (ev s))=some as) (hs:aa P f as res) (hf:res.flat=true) (hk:ba P K sos ⟨ay s dst (.d res),h⟩):ba P K (.c dst (.f f) args::sos) ⟨s,h⟩:=by
 simp only[ba,AO,ev,ha,Mw];exact⟨res,hs,.inr hf,hk⟩
theorem uU {dst:Nat} {op:GR} {p:Prop} {s':Nat->SV} {h':Nat->Ch} (hw:wr ⟨s,h⟩ dst op=some (p,⟨s',h'⟩)) (hp:p) (hk:ba P K sos ⟨s',h'⟩):ba P K (.w dst op::sos) ⟨s,h⟩:=
 ⟨⟨s,h⟩,f0.refl _,p,_,hw,hp,hk⟩
theorem K9 {dst:Nat} {op:GR} {p:Prop} {σ1:St} {s':Nat->SV} {h':Nat->Ch} (hi:f0 ⟨s,h⟩ σ1) (hw:wr σ1 dst op=some (p,⟨s',h'⟩)) (hp:p) (hk:ba P K sos ⟨s',h'⟩):ba P K (.w dst op::sos) ⟨s,h⟩:=
 ⟨σ1,hi,p,_,hw,hp,hk⟩
theorem K_ {dst:Nat} {op:GR} {late:List (Nat×Nat×sM)} {p:Prop} {s':Nat->SV} {h':Nat->Ch} (hw:wr ⟨s,h⟩ dst op=some (p,⟨s',h'⟩)) (hp:p) (hl:AB ⟨s',h'⟩ late) (hk:ba P K sos ⟨s',h'⟩):ba P K (.x dst op late::sos) ⟨s,h⟩:=by
 simp only[ba,AO,hw];exact⟨hp,hl,hk⟩
theorem uI:AB σ []:=trivial
theorem Dg {a t:Nat} {op:sM} {l:List (Nat×Nat×sM)} {p:Prop} {v:SV} (hr:rd h s op=some (p,v)) (hp:p) (hv:v=s t) (hl:AB ⟨s,h⟩ l):AB ⟨s,h⟩ ((a,t,op)::l):=by
 simp only[AB,Kg hr];exact⟨⟨hp,hv⟩,hl⟩
theorem L1 {dst:Option Nat} {f:Nat} {args:List SX} {ins outs:List SV} {res:SV} {L:List (Nat×Ch)} {σ1:St} {s':Nat->SV} {h':Nat->Ch} (hi:f0 ⟨s,h⟩ σ1) (hs:cQ P f ins res outs) (hc:res.closed=true) (hh:HandL σ1.h (args.map (ev σ1.s)) ins outs L) (ht:takes σ1 L dst res=some ⟨s',h'⟩) (hk:ba P K sos ⟨s',h'⟩):ba P K (.p dst (.f f) args::sos) ⟨s,h⟩:=
 ⟨σ1,hi,f,[],ins,outs,res,L,_,rfl,by simpa using hs,hc,hh,ht,hk⟩
end
theorem IQ {α:Type} (f:Nat->α) (i j:Nat) (v:α):ay f i v j=if j=i then v else f j:=rfl
theorem Hq (id:Nat) (dv:DV) (s:Nat->SV) (j:Nat):eF id dv s j=eS id dv (s j):=rfl
theorem Hr (id:Nat) (dv:DV) (h:Nat->Ch) (j:Nat):jz id dv h j=zx id dv (h j):=rfl
theorem LO (l:List (Nat×SV)) (h:List (Nat×Ch)):(st l h).s=lk l:=rfl
theorem LP (l:List (Nat×SV)) (h:List (Nat×Ch)):(st l h).h=lh h:=rfl
theorem Ce (id:Nat) (dv:DV):∀ (r:List DV),eE id dv (dR r)=dR r
 |[]=>rfl
 |d::r=>by
  have:=Ce id dv r
  simp only[dR,Mk,eE,eS] at *
  rw[this]
theorem Cf (id:Nat) (dv:DV):∀ (rows:List (List DV)),qe id dv (rows.map dR)=rows.map dR
 |[]=>rfl
 |r::rows=>by simp[qe,Ce,Cf id dv rows]
theorem Fh:∀ (r:List DV),SV.frzs (dR r)=some r
 |[]=>rfl
 |d::r=>by have:=Fh r;simp only[dR,Mk] at *;simp only[SV.frzs,SV.frz,this]
theorem Cg:∀ (rows:List (List DV)),SV.frzR (rows.map dR)=some rows
 |[]=>rfl
 |r::rows=>by simp[SV.frzR,Fh,Cg rows]
theorem IR (d:DV) (r:List DV):dR (d::r)= .d d::dR r:=rfl
theorem Kd:dR []=[]:=rfl
attribute [push_cast] zw Ha mm SV.firm SV.firms pf bV KK.fits rd wr ev cf St.swap IQ Hq Hr eS eE zx qe tg Cf Ce Fg yK wo E5 E6 jF yc SV.toDV SV.toDVs DV.cells? SV.cells? rG rH CR splice lk lh LO LP SV.noOwn SV.noOwns SV.lend SV.lends SV.lendC SV.lendCs SV.frzR SV.frzs SV.frz Cg fc vi jH takes SV.nOwn SV.nOwns SV.own1 SV.own1s SV.plug SV.plugs cz zM rM EA AQ SV.closed SV.closeds IR Kd DV.flat DV.flats Mk Nw Nu M1 List.getElem?_nil List.drop_zero List.drop_succ_cons List.drop_nil List.take_zero NJ List.take_nil Mv Nj Mq Mn List.set_cons_zero List.set_cons_succ MO Nf Nh Int.toNat_zero and_true true_and and_self ne_eq decide_not Mm Mo ME Me NF NB not_true_eq_false not_false_eq_true Bool.and_self Bool.or_self NK Mj N8 NU Bool.or_true Bool.true_or NX MB
theorem ge (n:Int) (h1: -9223372036854775808<=n) (h2:n<=9223372036854775807):IntKind.i64.wrap n=n:=by
 rw[IntKind.wrap_i64];omega
section
variable {P:Program} {Q:AX->St->Prop} {σ:St} {α:Type} {mk:α->St} {μ:α->Nat} {I:α->Prop} {m:Nat}
end
section
variable {P:Program} {Q:AX->St->Prop} {σ:St} {α:Type} {mk:Nat->α->St} {I:Nat->α->Prop} {k n t i:Nat} {N:Int}
end
