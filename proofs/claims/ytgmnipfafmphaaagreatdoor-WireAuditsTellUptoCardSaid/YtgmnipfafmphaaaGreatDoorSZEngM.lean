/-
  My text.
-/
import Derived.Test.YtgmnipfafmphaaaGreatDoorSZEngS
namespace Go.Proofs.YtgmnipfafmphaaaGreatDoor
set_option linter.unusedSimpArgs false
set_option linter.unusedVariables false
open Go.RowKit
section
variable {P:Program} {x y:SC} {Q:AX->St->Prop} {σ:St} {s:Nat->SV} {h:Nat->Ch} {K:St->Prop} {sos:List SO}
theorem CH {t:SX} {b:Bool} (hc:ev s t= .d (.bool b)) (hx:b=true->AW P x Q ⟨s,h⟩) (hy:b=false->AW P y Q ⟨s,h⟩):AW P (.cond t x y) Q ⟨s,h⟩:=IF (σ:=⟨s,h⟩) hc hx hy
theorem d7 (hw:AW P y Q σ):EU P y Q .normal σ:=hw
theorem d9 {i:Nat} (hw:Q (.exit i) σ):EU P y Q (.exit i) σ:=hw
theorem eO (hw:Q .ret σ):EU P y Q .ret σ:=hw
theorem cg {i:Nat} (hw:Q .normal σ):iH i Q .normal σ:=hw
theorem eh {i:Nat} (hw:Q .ret σ):iH i Q .ret σ:=hw
theorem m9 {i:Nat} (hw:Q .normal σ):iH i Q (.exit i) σ:=by simp only[iH,LX];exact hw
theorem oN {i j:Nat} (hne:j≠i) (hw:Q (.exit j) σ):iH i Q (.exit j) σ:=by simp only[iH,hne,LI];exact hw
theorem G_ {I:Nat->St->Prop} {m:Nat} (m':Nat) {σ':St} (hlt:m'<m) (hi:ce σ σ') (hI:I m' σ'):BR I m Q .normal σ:=⟨m',σ',hlt,hi,hI⟩
theorem EW {I:Nat->St->Prop} {m i:Nat} (hw:Q (.exit i) σ):BR I m Q (.exit i) σ:=hw
theorem dM (hk:K σ):aA P K [] σ:=hk
theorem j1 {dst:Nat} {op:l_} {p:Prop} {v:SV} (hr:rd h s op=some (p,v)) (hp:p) (hk:aA P K sos ⟨ak s dst v,h⟩):aA P K (.r dst op::sos) ⟨s,h⟩:=by
 simp only[aA,AO,hr];exact⟨hp,hk⟩
theorem KV {dst f:Nat} {args:List SX} {as:List DV} {res:DV} (ha:SV.toDVs (args.map (ev s))=some as) (hs:ae P f as res) (hk:aA P K sos ⟨ak s dst (.d res),h⟩):aA P K (.c dst (.f f) args::sos) ⟨s,h⟩:=by
 have hl:=gQ h _ _ ha
 simp only[aA,AO,ev,hl,Lr];exact⟨res,hs,.inl (by rw[ha];rfl),hk⟩
theorem Kr {dst t f:Nat} {args:List SX} {as caps:List DV} {res:DV} (hf:s t= .d (.fn f caps)) (ha:SV.toDVs (args.map (ev s))=some as) (hs:ae P f (as++caps) res) (hk:aA P K sos ⟨ak s dst (.d res),h⟩):aA P K (.c dst (.t t) args::sos) ⟨s,h⟩:=by
 have hl:=gQ h _ _ ha
 simp only[aA,AO,ev,hf,hl];exact⟨res,hs,.inl (by rw[ha];rfl),hk⟩
theorem zg {dst:Nat} {op:Eg} {p:Prop} {s':Nat->SV} {h':Nat->Ch} (hw:wr ⟨s,h⟩ dst op=some (p,⟨s',h'⟩)) (hp:p) (hk:aA P K sos ⟨s',h'⟩):aA P K (.w dst op::sos) ⟨s,h⟩:=
 ⟨⟨s,h⟩,ce.refl _,p,_,hw,hp,hk⟩
theorem IH {dst:Nat} {op:Eg} {p:Prop} {σ1:St} {s':Nat->SV} {h':Nat->Ch} (hi:ce ⟨s,h⟩ σ1) (hw:wr σ1 dst op=some (p,⟨s',h'⟩)) (hp:p) (hk:aA P K sos ⟨s',h'⟩):aA P K (.w dst op::sos) ⟨s,h⟩:=
 ⟨σ1,hi,p,_,hw,hp,hk⟩
theorem GA {dst:Nat} {op:Eg} {late:List (Nat×Nat×l_)} {p:Prop} {s':Nat->SV} {h':Nat->Ch} (hw:wr ⟨s,h⟩ dst op=some (p,⟨s',h'⟩)) (hp:p) (hl:p7 ⟨s',h'⟩ late) (hk:aA P K sos ⟨s',h'⟩):aA P K (.x dst op late::sos) ⟨s,h⟩:=by
 simp only[aA,AO,hw];exact⟨hp,hl,hk⟩
theorem eC:p7 σ []:=trivial
theorem fc {a t:Nat} {op:l_} {l:List (Nat×Nat×l_)} {p:Prop} {v:SV} (hr:rd h s op=some (p,v)) (hp:p) (hv:v=s t) (hl:p7 ⟨s,h⟩ l):p7 ⟨s,h⟩ ((a,t,op)::l):=by
 simp only[p7,IK hr];exact⟨⟨hp,hv⟩,hl⟩
theorem JL {dst:Option Nat} {f:Nat} {args:List SX} {ins outs:List SV} {res:SV} {L:List (Nat×Ch)} {σ1:St} {s':Nat->SV} {h':Nat->Ch} (hi:ce ⟨s,h⟩ σ1) (hs:bI P f ins res outs) (hc:res.closed=true) (hh:HandL σ1.h (args.map (ev σ1.s)) ins outs L) (ht:takes σ1 L dst res=some ⟨s',h'⟩) (hk:aA P K sos ⟨s',h'⟩):aA P K (.p dst (.f f) args::sos) ⟨s,h⟩:=
 ⟨σ1,hi,f,[],ins,outs,res,L,_,rfl,by simpa using hs,hc,hh,ht,hk⟩
end
theorem Ha {α:Type} (f:Nat->α) (i j:Nat) (v:α):ak f i v j=if j=i then v else f j:=rfl
theorem EX (id:Nat) (dv:DV) (s:Nat->SV) (j:Nat):ca id dv s j=cr id dv (s j):=rfl
theorem EY (id:Nat) (dv:DV) (h:Nat->Ch) (j:Nat):ct id dv h j=jf id dv (h j):=rfl
theorem Ks (l:List (Nat×SV)) (h:List (Nat×Ch)):(st l h).s=lk l:=rfl
theorem Kt (l:List (Nat×SV)) (h:List (Nat×Ch)):(st l h).h=lh h:=rfl
theorem zh (id:Nat) (dv:DV):∀ (r:List DV),b8 id dv (dR r)=dR r
 |[]=>rfl
 |d::r=>by
  have:=zh id dv r
  simp only[dR,Lh,b8,cr] at *
  rw[this]
theorem zi (id:Nat) (dv:DV):∀ (rows:List (List DV)),cF id dv (rows.map dR)=rows.map dR
 |[]=>rfl
 |r::rows=>by simp[cF,zh,zi id dv rows]
theorem yb (id:Nat) (dv:DV) (m:aL) (d:DV):cr id dv (oO m d)=oO m d:=by cases m<;>rfl
theorem pZ (id:Nat) (dv:DV):∀ (ms:List aL) (ds:List DV),b8 id dv (bW ms ds)=bW ms ds
 |[],ds=>by simp[bW,b8]
 |m::ms,[]=>by simp[bW,b8]
 |m::ms,d::ds=>by
  have:=pZ id dv ms ds
  unfold bW at *
  simp only[MC,b8,yb,this]
theorem yc (id:Nat) (dv:DV) (ms:List aL):∀ (rows:List (List DV)),cF id dv (rows.map (bW ms))=rows.map (bW ms)
 |[]=>rfl
 |r::rows=>by simp[cF,pZ,yc id dv ms rows]
theorem kE (id:Nat) (dv:DV):∀ (xs ys:List (List SV)),cF id dv (xs++ys)=cF id dv xs++cF id dv ys
 |[],ys=>rfl
 |x::xs,ys=>by simp[cF,kE id dv xs ys]
theorem yd (id:Nat) (dv:DV):∀ (xs:List (List SV)) (n:Nat),cF id dv (xs.take n)=(cF id dv xs).take n
 |[],n=>by simp[cF]
 |x::xs,0=>by simp[cF]
 |x::xs,n+1=>by simp[cF,yd id dv xs n]
theorem rP (id:Nat) (dv:DV) (r:List SV):∀ (xs:List (List SV)) (n:Nat),cF id dv (xs.set n r)=(cF id dv xs).set n (b8 id dv r)
 |[],n=>by simp[cF]
 |x::xs,0=>by simp[cF]
 |x::xs,n+1=>by simp[cF,rP id dv r xs n]
theorem CI:∀ (r:List DV),SV.frzs (dR r)=some r
 |[]=>rfl
 |d::r=>by have:=CI r;simp only[dR,Lh] at *;simp only[SV.frzs,SV.frz,this]
theorem zj:∀ (rows:List (List DV)),SV.frzR (rows.map dR)=some rows
 |[]=>rfl
 |r::rows=>by simp[SV.frzR,CI,zj rows]
theorem EZ {m:aL} {d:DV} (h:m.plain=true):SV.frz (oO m d)=some d:=by
 cases m with
 |sh=>rfl
 |sl e ms=>simp only[oO,SV.frz,h,LX]
 |pt ms=>simp only[oO,SV.frz,h,LX]
 |mp kk m=>simp[aL.plain] at h
 |bld T e=>simp[aL.plain] at h
theorem ye:∀ {ms:List aL} {ds:List DV},aL.plains ms=true->ds.length=ms.length->SV.frzs (bW ms ds)=some ds
 |[],ds,_,hl=>by have:ds=[]:=Ld.1 hl;subst this;rfl
 |m::ms,[],_,hl=>by simp at hl
 |m::ms,d::ds,hp,hl=>by
  simp only[aL.plains,K1] at hp
  have:=ye (ms:=ms) (ds:=ds) hp.2 (by simpa using hl)
  unfold bW at *
  simp only[MC,SV.frzs,EZ hp.1,this]
theorem yf {ms:List aL} (hp:aL.plains ms=true):∀ {rows:List (List DV)},(∀ r∈rows,r.length=ms.length)->SV.frzR (rows.map (bW ms))=some rows
 |[],_=>rfl
 |r::rows,h=>by
  have:=yf hp (rows:=rows) (fun r hr=>h r (by simp[hr]))
  simp only[Lh,SV.frzR,ye hp (h r oS),this]
theorem Ax (id:Nat) (dv:DV) (m:aL):∀ (ks vs:List DV),j9 id dv (ks.zip (vs.map (oO m)))=ks.zip (vs.map (oO m))
 |[],vs=>by simp[j9]
 |k::ks,[]=>by simp[j9]
 |k::ks,v::vs=>by simp[j9,yb,Ax id dv m ks vs]
theorem Hb (d:DV) (r:List DV):dR (d::r)= .d d::dR r:=rfl
theorem II:dR []=[]:=rfl
attribute [push_cast] jr SV.firm SV.firms lc bU KK.fits rd wr ev cm St.swap Ha EX EY cr b8 jf cF j9 zi zh yc pZ kE yd rP Ax CG uw qq EF Cv gK tM SV.toDV SV.toDVs DV.cells? SV.cells? nD nE zR splice lk lh Ks Kt SV.noOwn SV.noOwns SV.lend SV.lends SV.lendC SV.lendCs SV.frzR SV.frzs SV.frz zj dO qt gG takes SV.nOwn SV.nOwns SV.own1 SV.own1s SV.plug SV.plugs bX oP jw qW oO SV.closed SV.closeds Hb II DV.flat DV.flats Lh MY Ma Mb List.getElem?_nil Nc MO List.drop_nil List.take_zero Mt List.take_nil K7 Lf Lk Lw List.set_cons_zero List.set_cons_succ L9 ML Mo Int.toNat_zero and_true true_and and_self ne_eq decide_not LG LL LT K9 MK M9 not_true_eq_false not_false_eq_true M1 M8 Bool.and_true L4 Bool.and_false Bool.false_and Bool.or_true Bool.true_or Bool.or_false Mh
theorem aZ (n:Int) (h1: -9223372036854775808<=n) (h2:n<=9223372036854775807):IntKind.i64.wrap n=n:=by
 rw[IntKind.wrap_i64];omega
def JM {α:Type} (mk:α->St) (μ:α->Nat) (I:α->Prop) (Q:AX->St->Prop) (m:Nat):AX->St->Prop
 | .normal,σ=>∃ a,μ a<m/\ce σ (mk a)/\I a
 | .exit j,σ=>Q (.exit j) σ
 | .ret,σ=>Q .ret σ
section
variable {P:Program} {Q:AX->St->Prop} {σ:St} {α:Type} {mk:α->St} {μ:α->Nat} {I:α->Prop} {m:Nat}
theorem zk {j:Nat} (hw:Q (.exit j) σ):JM mk μ I Q m (.exit j) σ:=hw
theorem zl (hw:Q .ret σ):JM mk μ I Q m .ret σ:=hw
end
def Hc {α:Type} (mk:Nat->α->St) (I:Nat->α->Prop) (Q:AX->St->Prop) (k n t i:Nat) (N:Int):AX->St->Prop
 | .normal,σ=>σ.s k= .d (.int .i64 i)/\∃ a,ce ⟨ak (ak σ.s t (.d (.int .i64 ((i:Int)+1)))) k (.d (.int .i64 ((i:Int)+1))),σ.h⟩ (mk (i+1) a)/\I (i+1) a
 | .exit j,σ=>Q (.exit j) σ
 | .ret,σ=>Q .ret σ
section
variable {P:Program} {Q:AX->St->Prop} {σ:St} {α:Type} {mk:Nat->α->St} {I:Nat->α->Prop} {k n t i:Nat} {N:Int}
theorem H_ {s:Nat->SV} {h:Nat->Ch} (a:α) (h1:s k= .d (.int .i64 i)) (h2:ce ⟨ak (ak s t (.d (.int .i64 ((i:Int)+1)))) k (.d (.int .i64 ((i:Int)+1))),h⟩ (mk (i+1) a)) (h3:I (i+1) a):Hc mk I Q k n t i N .normal ⟨s,h⟩:=⟨h1,a,h2,h3⟩
theorem zm {j:Nat} (hw:Q (.exit j) σ):Hc mk I Q k n t i N (.exit j) σ:=hw
theorem zn (hw:Q .ret σ):Hc mk I Q k n t i N .ret σ:=hw
theorem Ia {b0 c k n t:Nat} {B:SC} (mk:Nat->α->St) (I:Nat->α->Prop) (N:Nat) (a0:α) (hN:N<=4611686018427387904) (hk:∀ i a,(mk i a).s k= .d (.int .i64 i)) (hn:∀ i a,(mk i a).s n= .d (.int .i64 (N:Int))) (h0:ce σ (mk 0 a0)) (hI:I 0 a0)
  (body:∀ i a,i<N->I i a->AW P B (Hc mk I (iH b0 Q) k n t i N) ⟨ak (mk i a).s c (.d (.bool true)),(mk i a).h⟩)
  (done:∀ a,I N a->Q .normal ⟨ak (mk N a).s c (.d (.bool false)),(mk N a).h⟩):
  AW P (.loop (.seq (.reg [.r c (.bin .lss (.t k) (.t n))]) (.seq (.cond (.t c) .skip (.exit b0)) (.seq B (.reg [.r t (.bin .add (.t k) (.c (.d (.int .i64 1)))),.r k (.mv (.t t))]))))) (iH b0 Q) σ:=by
 refine EV (fun m σ=>∃ i a,i<=N/\m=N - i/\σ=mk i a/\I i a) N ⟨mk 0 a0,h0,0,a0,LT _,rfl,rfl,hI⟩ ?_
 rintro m σ ⟨i,a,hi,rfl,rfl,hI⟩
 have hk':=hk i a
 have hn':=hn i a
 generalize hσ:mk i a=σ at *
 obtain⟨s,h⟩:=σ
 dsimp only at hk' hn'
 refine d6 (dL (j1 (p:=True) (v:= .d (.bool (decide ((i:Int)<(N:Int))))) (by simp only[rd,ev,hk',hn',uw,qq,LX]) trivial (dM (d7 (d6 (CH (b:=decide ((i:Int)<(N:Int))) (by simp[ev,ak]) (fun hb=> ?_) (fun hb=> ?_)))))))
 ·have hb':i<N:=by simpa using hb
  simp only[hb]
  refine cG (d7 (d6 ?_))
  have hbody:=body i a hb' hI
  rw[hσ] at hbody
  refine zd ?_ hbody
  rintro e ⟨s',h'⟩ he
  cases e with
  |normal=>
   obtain⟨h1,a',h2,h3⟩:=he
   dsimp only at h1 h2 h3
   have hw:IntKind.i64.wrap ((i:Int)+1)=(i:Int)+1:=aZ _ oM oM
   refine d7 (dL (j1 (p:=True) (v:= .d (.int .i64 ((i:Int)+1))) (by simp only[rd,ev,h1,uw,qq,hw,LX]) trivial (j1 (p:=True) (v:= .d (.int .i64 ((i:Int)+1))) (by simp[rd,ev,ak]) trivial (dM ?_))))
   exact G_ (N - (i+1)) oM h2 ⟨i+1,a',by omega,rfl,rfl,h3⟩
  |exit j=>exact he
  |ret=>exact he
 ·have hb':i=N:=by simp at hb;omega
  subst hb'
  simp only[hb]
  have:=done a hI
  rw[hσ] at this
  exact d8 (d9 (EW (m9 this)))
end
end Go.Proofs.YtgmnipfafmphaaaGreatDoor

