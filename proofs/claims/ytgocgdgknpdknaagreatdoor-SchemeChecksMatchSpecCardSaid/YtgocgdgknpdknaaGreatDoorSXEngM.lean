/-
  My text.
-/
import Derived.Test.YtgocgdgknpdknaaGreatDoorSXEngS
namespace Go.Proofs.YtgocgdgknpdknaaGreatDoor
set_option linter.unusedSimpArgs false
set_option linter.unusedVariables false
open Go.RowKit
section
variable {P:Program} {x y:SC} {Q:AX->St->Prop} {σ:St} {s:Nat->SV} {h:Nat->Ch} {K:St->Prop} {sos:List SO}
theorem Gm {t:SX} {b:Bool} (hc:ev s t= .d (.bool b)) (hx:b=true->AW P x Q ⟨s,h⟩) (hy:b=false->AW P y Q ⟨s,h⟩):AW P (.cond t x y) Q ⟨s,h⟩:=HP (σ:=⟨s,h⟩) hc hx hy
theorem bv (hw:AW P y Q σ):EU P y Q .normal σ:=hw
theorem ck {i:Nat} (hw:Q (.exit i) σ):EU P y Q (.exit i) σ:=hw
theorem bD (hw:Q .ret σ):EU P y Q .ret σ:=hw
theorem bo {i:Nat} (hw:Q .normal σ):iY i Q .normal σ:=hw
theorem bE {i:Nat} (hw:Q .ret σ):iY i Q .ret σ:=hw
theorem nk {i:Nat} (hw:Q .normal σ):iY i Q (.exit i) σ:=by simp only[iY,K4];exact hw
theorem EW {i j:Nat} (hne:j≠i) (hw:Q (.exit j) σ):iY i Q (.exit j) σ:=by simp only[iY,hne,KG];exact hw
theorem bw (hk:K σ):aR P K [] σ:=hk
theorem iN {dst:Nat} {op:qK} {p:Prop} {v:SV} (hr:rd h s op=some (p,v)) (hp:p) (hk:aR P K sos ⟨aI s dst v,h⟩):aR P K (.r dst op::sos) ⟨s,h⟩:=by
 simp only[aR,AO,hr];exact⟨hp,hk⟩
theorem JK {dst f:Nat} {args:List SX} {as:List DV} {res:DV} (ha:SV.toDVs (args.map (ev s))=some as) (hs:aa P f as res) (hk:aR P K sos ⟨aI s dst (.d res),h⟩):aR P K (.c dst (.f f) args::sos) ⟨s,h⟩:=by
 have hl:=ig h _ _ ha
 simp only[aR,AO,ev,hl,Ka];exact⟨res,hs,.inl (by rw[ha];rfl),hk⟩
theorem Ji {dst t f:Nat} {args:List SX} {as caps:List DV} {res:DV} (hf:s t= .d (.fn f caps)) (ha:SV.toDVs (args.map (ev s))=some as) (hs:aa P f (as++caps) res) (hk:aR P K sos ⟨aI s dst (.d res),h⟩):aR P K (.c dst (.t t) args::sos) ⟨s,h⟩:=by
 have hl:=ig h _ _ ha
 simp only[aR,AO,ev,hf,hl];exact⟨res,hs,.inl (by rw[ha];rfl),hk⟩
theorem Jj {dst f:Nat} {args:List SX} {as:List DV} {res:DV} (ha:SV.lends h (args.map (ev s))=some as) (hs:aa P f as res) (hf:res.flat=true) (hk:aR P K sos ⟨aI s dst (.d res),h⟩):aR P K (.c dst (.f f) args::sos) ⟨s,h⟩:=by
 simp only[aR,AO,ev,ha,Ka];exact⟨res,hs,.inr hf,hk⟩
theorem tQ {dst:Nat} {op:Eu} {p:Prop} {s':Nat->SV} {h':Nat->Ch} (hw:wr ⟨s,h⟩ dst op=some (p,⟨s',h'⟩)) (hp:p) (hk:aR P K sos ⟨s',h'⟩):aR P K (.w dst op::sos) ⟨s,h⟩:=
 ⟨⟨s,h⟩,hY.refl _,p,_,hw,hp,hk⟩
theorem IJ {dst:Nat} {op:Eu} {p:Prop} {σ1:St} {s':Nat->SV} {h':Nat->Ch} (hi:hY ⟨s,h⟩ σ1) (hw:wr σ1 dst op=some (p,⟨s',h'⟩)) (hp:p) (hk:aR P K sos ⟨s',h'⟩):aR P K (.w dst op::sos) ⟨s,h⟩:=
 ⟨σ1,hi,p,_,hw,hp,hk⟩
theorem Jd {dst:Nat} {op:Eu} {late:List (Nat×Nat×qK)} {p:Prop} {s':Nat->SV} {h':Nat->Ch} (hw:wr ⟨s,h⟩ dst op=some (p,⟨s',h'⟩)) (hp:p) (hl:yx ⟨s',h'⟩ late) (hk:aR P K sos ⟨s',h'⟩):aR P K (.x dst op late::sos) ⟨s,h⟩:=by
 simp only[aR,AO,hw];exact⟨hp,hl,hk⟩
theorem ue:yx σ []:=trivial
theorem EX {a t:Nat} {op:qK} {l:List (Nat×Nat×qK)} {p:Prop} {v:SV} (hr:rd h s op=some (p,v)) (hp:p) (hv:v=s t) (hl:yx ⟨s,h⟩ l):yx ⟨s,h⟩ ((a,t,op)::l):=by
 simp only[yx,HV hr];exact⟨⟨hp,hv⟩,hl⟩
theorem Jk {dst:Option Nat} {f:Nat} {args:List SX} {ins outs:List SV} {res:SV} {L:List (Nat×Ch)} {σ1:St} {s':Nat->SV} {h':Nat->Ch} (hi:hY ⟨s,h⟩ σ1) (hs:cr P f ins res outs) (hc:res.closed=true) (hh:HandL σ1.h (args.map (ev σ1.s)) ins outs L) (ht:takes σ1 L dst res=some ⟨s',h'⟩) (hk:aR P K sos ⟨s',h'⟩):aR P K (.p dst (.f f) args::sos) ⟨s,h⟩:=
 ⟨σ1,hi,f,[],ins,outs,res,L,_,rfl,by simpa using hs,hc,hh,ht,hk⟩
end
theorem Gn {α:Type} (f:Nat->α) (i j:Nat) (v:α):aI f i v j=if j=i then v else f j:=rfl
theorem EY (id:Nat) (dv:DV) (s:Nat->SV) (j:Nat):gE id dv s j=eI id dv (s j):=rfl
theorem EZ (id:Nat) (dv:DV) (h:Nat->Ch) (j:Nat):pU id dv h j=EI id dv (h j):=rfl
theorem Jl (l:List (Nat×SV)) (h:List (Nat×Ch)):(st l h).s=lk l:=rfl
theorem Jm (l:List (Nat×SV)) (h:List (Nat×Ch)):(st l h).h=lh h:=rfl
theorem zN (id:Nat) (dv:DV):∀ (r:List DV),je id dv (dR r)=dR r
 |[]=>rfl
 |d::r=>by
  have:=zN id dv r
  simp only[dR,JZ,je,eI] at *
  rw[this]
theorem zO (id:Nat) (dv:DV):∀ (rows:List (List DV)),qO id dv (rows.map dR)=rows.map dR
 |[]=>rfl
 |r::rows=>by simp[qO,zN,zO id dv rows]
theorem CY:∀ (r:List DV),SV.frzs (dR r)=some r
 |[]=>rfl
 |d::r=>by have:=CY r;simp only[dR,JZ] at *;simp only[SV.frzs,SV.frz,this]
theorem zP:∀ (rows:List (List DV)),SV.frzR (rows.map dR)=some rows
 |[]=>rfl
 |r::rows=>by simp[SV.frzR,CY,zP rows]
theorem Gp (d:DV) (r:List DV):dR (d::r)= .d d::dR r:=rfl
theorem HS:dR []=[]:=rfl
attribute [push_cast] kh SV.firm SV.firms sm br KK.fits rd wr ev bS St.swap Gn EY EZ eI je EI qO zF zO zN CX wo tX CO CP ia vJ SV.toDV SV.toDVs DV.cells? SV.cells? pP pQ Ar splice lk lh Jl Jm SV.noOwn SV.noOwns SV.lend SV.lends SV.lendC SV.lendCs SV.frzR SV.frzs SV.frz zP dW ub hE takes SV.nOwn SV.nOwns SV.own1 SV.own1s SV.plug SV.plugs b_ zS SV.closed SV.closeds Gp HS DV.flat DV.flats JZ KX K3 Kq List.getElem?_nil List.drop_zero List.drop_succ_cons List.drop_nil List.take_zero Lr List.take_nil JT JX Kd J5 List.set_cons_zero List.set_cons_succ Kr KS K9 Int.toNat_zero and_true true_and and_self ne_eq decide_not J3 Kt Kf JW Lo Lh not_true_eq_false not_false_eq_true Bool.and_self Bool.or_self LA J6 Bool.and_false Lx Bool.or_true Bool.true_or Bool.or_false Kj
theorem eJ (n:Int) (h1: -9223372036854775808<=n) (h2:n<=9223372036854775807):IntKind.i64.wrap n=n:=by
 rw[IntKind.wrap_i64];omega
section
variable {P:Program} {Q:AX->St->Prop} {σ:St} {α:Type} {mk:α->St} {μ:α->Nat} {I:α->Prop} {m:Nat}
end
section
variable {P:Program} {Q:AX->St->Prop} {σ:St} {α:Type} {mk:Nat->α->St} {I:Nat->α->Prop} {k n t i:Nat} {N:Int}
end
