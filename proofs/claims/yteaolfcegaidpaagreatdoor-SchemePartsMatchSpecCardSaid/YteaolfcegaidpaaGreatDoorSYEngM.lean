/-
  My text.
-/
import Derived.Test.YteaolfcegaidpaaGreatDoorSYEngS
namespace Go.Proofs.YteaolfcegaidpaaGreatDoor
set_option linter.unusedSimpArgs false
set_option linter.unusedVariables false
open Go.RowKit
section
variable {P:Program} {x y:SC} {Q:AX->St->Prop} {σ:St} {s:Nat->SV} {h:Nat->Ch} {K:St->Prop} {sos:List SO}
theorem K6 {t:SX} {b:Bool} (hc:ev s t= .d (.bool b)) (hx:b=true->AW P x Q ⟨s,h⟩) (hy:b=false->AW P y Q ⟨s,h⟩):AW P (.cond t x y) Q ⟨s,h⟩:=My (σ:=⟨s,h⟩) hc hx hy
theorem bB (hw:AW P y Q σ):Jm P y Q .normal σ:=hw
theorem cx {i:Nat} (hw:Q (.exit i) σ):Jm P y Q (.exit i) σ:=hw
theorem cb (hw:Q .ret σ):Jm P y Q .ret σ:=hw
theorem bq {i:Nat} (hw:Q .normal σ):lw i Q .normal σ:=hw
theorem cg {i:Nat} (hw:Q .ret σ):lw i Q .ret σ:=hw
theorem sI {i:Nat} (hw:Q .normal σ):lw i Q (.exit i) σ:=by simp only[lw,PR];exact hw
theorem Jo {i j:Nat} (hne:j≠i) (hw:Q (.exit j) σ):lw i Q (.exit j) σ:=by simp only[lw,hne,Pp];exact hw
theorem bv (hk:K σ):bh P K [] σ:=hk
theorem im {dst:Nat} {op:uk} {p:Prop} {v:SV} (hr:rd h s op=some (p,v)) (hp:p) (hk:bh P K sos ⟨aH s dst v,h⟩):bh P K (.r dst op::sos) ⟨s,h⟩:=by
 simp only[bh,AO,hr];exact⟨hp,hk⟩
theorem Ov {dst f:Nat} {args:List SX} {as:List DV} {res:DV} (ha:SV.toDVs (args.map (ev s))=some as) (hs:aa P f as res) (hk:bh P K sos ⟨aH s dst (.d res),h⟩):bh P K (.c dst (.f f) args::sos) ⟨s,h⟩:=by
 have hl:=kw h _ _ ha
 simp only[bh,AO,ev,hl,OY];exact⟨res,hs,.inl (by rw[ha];rfl),hk⟩
theorem Ob {dst t f:Nat} {args:List SX} {as caps:List DV} {res:DV} (hf:s t= .d (.fn f caps)) (ha:SV.toDVs (args.map (ev s))=some as) (hs:aa P f (as++caps) res) (hk:bh P K sos ⟨aH s dst (.d res),h⟩):bh P K (.c dst (.t t) args::sos) ⟨s,h⟩:=by
 have hl:=kw h _ _ ha
 simp only[bh,AO,ev,hf,hl];exact⟨res,hs,.inl (by rw[ha];rfl),hk⟩
theorem wM {dst:Nat} {op:IV} {p:Prop} {s':Nat->SV} {h':Nat->Ch} (hw:wr ⟨s,h⟩ dst op=some (p,⟨s',h'⟩)) (hp:p) (hk:bh P K sos ⟨s',h'⟩):bh P K (.w dst op::sos) ⟨s,h⟩:=
 ⟨⟨s,h⟩,dB.refl _,p,_,hw,hp,hk⟩
theorem Oc {dst:Nat} {op:IV} {p:Prop} {σ1:St} {s':Nat->SV} {h':Nat->Ch} (hi:dB ⟨s,h⟩ σ1) (hw:wr σ1 dst op=some (p,⟨s',h'⟩)) (hp:p) (hk:bh P K sos ⟨s',h'⟩):bh P K (.w dst op::sos) ⟨s,h⟩:=
 ⟨σ1,hi,p,_,hw,hp,hk⟩
theorem Nw {dst:Nat} {op:IV} {late:List (Nat×Nat×uk)} {p:Prop} {s':Nat->SV} {h':Nat->Ch} (hw:wr ⟨s,h⟩ dst op=some (p,⟨s',h'⟩)) (hp:p) (hl:Co ⟨s',h'⟩ late) (hk:bh P K sos ⟨s',h'⟩):bh P K (.x dst op late::sos) ⟨s,h⟩:=by
 simp only[bh,AO,hw];exact⟨hp,hl,hk⟩
theorem tl:Co σ []:=trivial
theorem yd {a t:Nat} {op:uk} {l:List (Nat×Nat×uk)} {p:Prop} {v:SV} (hr:rd h s op=some (p,v)) (hp:p) (hv:v=s t) (hl:Co ⟨s,h⟩ l):Co ⟨s,h⟩ ((a,t,op)::l):=by
 simp only[Co,ME hr];exact⟨⟨hp,hv⟩,hl⟩
theorem Oq {dst:Option Nat} {f:Nat} {args:List SX} {ins outs:List SV} {res:SV} {L:List (Nat×Ch)} {σ1:St} {s':Nat->SV} {h':Nat->Ch} (hi:dB ⟨s,h⟩ σ1) (hs:cF P f ins res outs) (hc:res.closed=true) (hh:HandL σ1.h (args.map (ev σ1.s)) ins outs L) (ht:takes σ1 L dst res=some ⟨s',h'⟩) (hk:bh P K sos ⟨s',h'⟩):bh P K (.p dst (.f f) args::sos) ⟨s,h⟩:=
 ⟨σ1,hi,f,[],ins,outs,res,L,_,rfl,by simpa using hs,hc,hh,ht,hk⟩
end
theorem K7 {α:Type} (f:Nat->α) (i j:Nat) (v:α):aH f i v j=if j=i then v else f j:=rfl
theorem Jp (id:Nat) (dv:DV) (s:Nat->SV) (j:Nat):gn id dv s j=fQ id dv (s j):=rfl
theorem Jq (id:Nat) (dv:DV) (h:Nat->Ch) (j:Nat):lv id dv h j=Bg id dv (h j):=rfl
theorem Od (l:List (Nat×SV)) (h:List (Nat×Ch)):(st l h).s=lk l:=rfl
theorem Oe (l:List (Nat×SV)) (h:List (Nat×Ch)):(st l h).h=lh h:=rfl
theorem DY (id:Nat) (dv:DV):∀ (r:List DV),fk id dv (dR r)=dR r
 |[]=>rfl
 |d::r=>by
  have:=DY id dv r
  simp only[dR,OQ,fk,fQ] at *
  rw[this]
theorem DZ (id:Nat) (dv:DV):∀ (rows:List (List DV)),rx id dv (rows.map dR)=rows.map dR
 |[]=>rfl
 |r::rows=>by simp[rx,DY,DZ id dv rows]
theorem GZ:∀ (r:List DV),SV.frzs (dR r)=some r
 |[]=>rfl
 |d::r=>by have:=GZ r;simp only[dR,OQ] at *;simp only[SV.frzs,SV.frz,this]
theorem D0:∀ (rows:List (List DV)),SV.frzR (rows.map dR)=some rows
 |[]=>rfl
 |r::rows=>by simp[SV.frzR,GZ,D0 rows]
theorem K8 (d:DV) (r:List DV):dR (d::r)= .d d::dR r:=rfl
theorem MB:dR []=[]:=rfl
attribute [push_cast] Bf I_ nm SV.firm SV.firms qh cr KK.fits rd wr ev c6 St.swap K7 Jp Jq fQ fk Bg rx Ap DZ DY GY An xU GP GQ kr zM SV.toDV SV.toDVs DV.cells? SV.cells? te tf Ey splice lk lh Od Oe SV.noOwn SV.noOwns SV.lend SV.lends SV.lendC SV.lendCs SV.frzR SV.frzs SV.frz D0 fC x_ kW takes SV.nOwn SV.nOwns SV.own1 SV.own1s SV.plug SV.plugs cY Bw tm Gj Cz SV.closed SV.closeds K8 MB DV.flat DV.flats OQ PU PY Pn List.getElem?_nil List.drop_zero List.drop_succ_cons List.drop_nil List.take_zero Qk List.take_nil OW Pr OR OM List.set_cons_zero List.set_cons_succ Pl PP PO Int.toNat_zero and_true true_and and_self ne_eq decide_not OS Po Pi OH Qh Qj not_true_eq_false not_false_eq_true Bool.and_self Bool.or_self Bool.and_true OZ Bool.and_false Qq Bool.or_true Bool.true_or Bool.or_false Pj
theorem bn (n:Int) (h1: -9223372036854775808<=n) (h2:n<=9223372036854775807):IntKind.i64.wrap n=n:=by
 rw[IntKind.wrap_i64];omega
section
variable {P:Program} {Q:AX->St->Prop} {σ:St} {α:Type} {mk:α->St} {μ:α->Nat} {I:α->Prop} {m:Nat}
end
section
variable {P:Program} {Q:AX->St->Prop} {σ:St} {α:Type} {mk:Nat->α->St} {I:Nat->α->Prop} {k n t i:Nat} {N:Int}
end
