/-
  My text.
-/
import Derived.Test.YteaolfcegaidpaaGreatDoorSYEngT
import Derived.LoopN
namespace Go.Proofs.YteaolfcegaidpaaGreatDoor
set_option linter.unusedSimpArgs false
set_option linter.unusedVariables false
open Go.RowKit
inductive RV where
 |t (n:Nat)
 |cell (n sz:Nat)
def nu (P:Program) (N:Nat):ResultVar->RV->Bool
 | .tmp t,.t n=>t==n&&decide (n<N)
 | .cell a t,.cell n sz=>a==n&&decide (n<N)&&(match P.underlying t with|some d=>jp d|none=>false)&&(P.info? t).isSome&&P.cellsOf t==sz
 |_,_=>false
def g9 (P:Program) (N:Nat):List ResultVar->List RV->Bool
 |[],[]=>true
 |r::rs,q::qs=>nu P N r q&&g9 P N rs qs
 |_,_=>false
inductive SC where
 |skip
 |reg (ops:List SO)
 |regD (ops:List SO)
 |regE (ops:List SO)
 |regP (π:List Nat) (ops:List SO)
 |regV (π:List Nat) (pre:List SO) (x1 x2:SO) (post:List SO)
 |seq (x y:SC)
 |cond (c:SX) (x y:SC)
 |block (id:Nat) (x:SC)
 |loop (x:SC)
 |exit (id:Nat)
 |ret
 |rangeM (d0:Nat) (m:SX) (d2 dn df de b1 b2:Nat) (sos:List SO) (x:SC)
 |inl (k:Nat) (sos:List SO) (N:Nat) (x:SC) (qs:List RV)
 |inlC (f nc k:Nat) (sos:List SO) (N:Nat) (x:SC) (qs:List RV)
 |any
inductive AX where
 |normal
 |exit (id:Nat)
 |ret
 deriving DecidableEq
def Mw (P:Program) (N:Nat) (π:List Nat) (ops:Array Oper) (i:Nat) (s1 s2:List SO):Bool:=
 MR i ops π s1 s2&&aY P N (Ec ops (i+1) i) (Ec ops (i+1) i).toList s1&&NC P N (Ec ops (i+1) i) s1 (s1.map dh) 0 (Ec ops (i+1) i).toList s1&&
 JU π (Ec ops i (i+1))&&aY P N (Ai π (Ec ops i (i+1))) (Ai π (Ec ops i (i+1))).toList s2&&NC P N (Ai π (Ec ops i (i+1))) s2 (s2.map dh) 0 (Ai π (Ec ops i (i+1))).toList s2
def DW (P:Program) (d0:Nat):Op->Bool
 | .range t (.tmp x)=>x==d0&&(match P.underlying t with|some (.map _ _)=>true|_=>false)
 |_=>false
def Gf (d2:Nat):Op->Bool
 | .next (.tmp x) false=>x==d2
 |_=>false
def DX (d2:Nat):Op->Bool
 | .entry (.tmp x)=>x==d2
 |_=>false
def Gg (dn:Nat):Op->Bool
 | .extract (.tmp x) 0=>x==dn
 |_=>false
def Jk (P:Program) (N:Nat) (d0:Nat) (m:SX) (d2 dn df de:Nat) (o1 o2 o3:Array Oper) (sos:List SO):Bool:=
 match o1.toList,o2.toList,o3.toList with
 |[p,q],[n1,n2],e::rest=>aY P N o1 [p] [.r d0 (.mv m)]&&q.guard.isNone&&q.dst==some d2&&DW P d0 q.op&&n1.guard.isNone&&n1.dst==some dn&&Gf d2 n1.op&&n2.guard.isNone&&n2.dst==some df&&Gg dn n2.op&&
   e.guard.isNone&&e.dst==some de&&DX d2 e.op&&decide (d0<N)&&decide (d2<N)&&decide (dn<N)&&decide (df<N)&&decide (de<N)&&decide (d2≠dn)&&decide (d2≠df)&&decide (dn≠df)&&aY P N o3 rest sos
 |_,_,_=>false
def c7 (P:Program) (N:Nat):SC->Code->Bool
 | .skip,.skip=>true
 | .reg sos,.region _ ops false=>aY P N ops ops.toList sos
 | .regD sos,.region _ ops true=>aY P N ops ops.toList sos&&(match EU sos with|some ds=>decide ds.Nodup&&yc ops ds 0 ops.toList sos|none=>false)
 | .regE sos,.region _ ops true=>aY P N ops ops.toList sos&&Ar true P N ops sos (sos.map dh) 0 ops.toList sos
 | .regP π sos,.region _ ops true=>JU π ops&&aY P N (Ai π ops) (Ai π ops).toList sos&&Ar true P N (Ai π ops) sos (sos.map dh) 0 (Ai π ops).toList sos
 | .regV π pre x1 x2 post,.region _ ops true=>Mw P N π ops pre.length (pre++x1::x2::post) (pre++x2::x1::post)
 | .seq x y,.seq a b=>c7 P N x a&&c7 P N y b
 | .cond t x y,.cond o a b=>aA N o t&&c7 P N x a&&c7 P N y b
 | .block i x,.block j a=>i==j&&c7 P N x a
 | .loop x,.loop a=>c7 P N x a
 | .exit i,.exit j=>i==j
 | .ret,.ret=>true
 | .rangeM d0 m d2 dn df de b1 b2 sos x,.seq (.region _ o1 false) (.block c1 (.loop (.seq (.region _ o2 false) (.seq (.cond (.tmp t) .skip (.exit c2)) (.block c3 (.seq (.region _ o3 false) y))))))=>
   Jk P N d0 m d2 dn df de o1 o2 o3 sos&&c1==b1&&c2==b1&&c3==b2&&t==df&&decide (b1≠b2)&&c7 P N x y
 | .inl k sos N' x qs,.region _ ops false=>aY P N ops ops.toList sos&&(match sos[k]? with
   |some (.p _ (.f f) args)=>o_ P f&&(match P.funcs[f]? with
    |some fn=>decide (fn.ntmps=N')&&decide (args.length<=N')&&g9 P N' fn.results.toList qs&&(match fn.body with|some code=>c7 P N' x code|none=>false)
    |none=>false)
   |_=>false)
 | .inlC f nc k sos N' x qs,.region _ ops false=>aY P N ops ops.toList sos&&(match sos[k]? with
   |some (.p _ (.t _) args)=>o_ P f&&(match P.funcs[f]? with
    |some fn=>decide (fn.ntmps=N')&&decide (args.length+nc<=N')&&g9 P N' fn.results.toList qs&&(match fn.body with|some code=>c7 P N' x code|none=>false)
    |none=>false)
   |_=>false)
 | .any,_=>true
 |_,_=>false
def Jl (c:Cx) (Q:AX->St->Prop) (R:Exit->Act->World->Prop):Prop:=
 (∀ σ κ φ a w,cE c σ κ φ a w->Q .normal σ->R .normal a w)/\
 (∀ i σ κ φ a w,cE c σ κ φ a w->Q (.exit i) σ->R (.exit i) a w)/\
 (∀ σ κ φ a w,cE c σ κ φ a w->Q .ret σ->R .ret a w)
def AW (P:Program) (x:SC) (Q:AX->St->Prop) (σ:St):Prop:=
 P.follows .mixedOrders=true->∀ (c:Cx) (code:Code) (R:Exit->Act->World->Prop),c7 P c.N x code=true->Jl c Q R->∀ κ φ a w,cE c σ κ φ a w->code.wp P R a w
def Jm (P:Program) (y:SC) (Q:AX->St->Prop):AX->St->Prop
 | .normal,σ=>AW P y Q σ
 | .exit i,σ=>Q (.exit i) σ
 | .ret,σ=>Q .ret σ
def lw (id:Nat) (Q:AX->St->Prop):AX->St->Prop
 | .normal,σ=>Q .normal σ
 | .exit i,σ=>if i=id then Q .normal σ else Q (.exit i) σ
 | .ret,σ=>Q .ret σ
def Mx (I:Nat->St->Prop) (m:Nat) (Q:AX->St->Prop):AX->St->Prop
 | .normal,σ=>∃ m' σ',m'<m/\dB σ σ'/\I m' σ'
 | .exit i,σ=>Q (.exit i) σ
 | .ret,σ=>Q .ret σ
section
variable {P:Program} {x y:SC} {Q Q':AX->St->Prop} {σ σ':St}
theorem C6 (h:dB σ σ') (hw:AW P x Q σ'):AW P x Q σ:=fun hmix c code R hm hp κ φ a w hr=>by
 obtain⟨κ',φ',hr'⟩:=h c κ φ a w hr
 exact hw hmix c code R hm hp κ' φ' a w hr'
theorem Br (h:∀ e σ,Q e σ->Q' e σ) (hw:AW P x Q σ):AW P x Q' σ:=fun hmix c code R hm hp κ φ a w hr=>
 hw hmix c code R hm ⟨fun σ κ φ a w hr hq=>hp.1 σ κ φ a w hr (h _ _ hq),fun i σ κ φ a w hr hq=>hp.2.1 i σ κ φ a w hr (h _ _ hq),fun σ κ φ a w hr hq=>hp.2.2 σ κ φ a w hr (h _ _ hq)⟩ κ φ a w hr
theorem bl (hw:Q .normal σ):AW P .skip Q σ:=fun _ c code R hm hp κ φ a w hr=>by
 cases code<;>simp[c7] at hm
 exact wp_skip (hp.1 _ _ _ _ _ hr hw)
theorem bR (hw:Q .ret σ):AW P .ret Q σ:=fun _ c code R hm hp κ φ a w hr=>by
 cases code<;>simp[c7] at hm
 exact wp_ret (hp.2.2 _ _ _ _ _ hr hw)
theorem cw {i:Nat} (hw:Q (.exit i) σ):AW P (.exit i) Q σ:=fun _ c code R hm hp κ φ a w hr=>by
 cases code<;>simp only[c7,O5,OI] at hm
 subst hm
 exact wp_exit (hp.2.1 _ _ _ _ _ _ hr hw)
theorem bt {ops:List SO} (hw:bh P (Q .normal) ops σ):AW P (.reg ops) Q σ:=fun _ c code R hm hp κ φ a w hr=>by
 obtain⟨id,ops',rfl,hm⟩:∃ id ops',code= .region id ops' false/\aY P c.N ops' ops'.toList ops=true:=by
  cases code with
  |region id ops' draw=>cases draw with
   |false=>exact⟨id,ops',rfl,hm⟩
   |true=>simp[c7] at hm
  |_=>simp[c7] at hm
 exact D4 (K:=Q .normal) (fun σ' κ' φ' a' w' hr' hk=>hp.1 _ _ _ _ _ hr' hk) hm hr hw
theorem uE {ops:List SO} (hw:bh P (Q .normal) ops σ):AW P (.regD ops) Q σ:=fun hmix c code R hm hp κ φ a w hr=>by
 obtain⟨id,ops',rfl,h1,h2⟩:∃ id ops',code= .region id ops' true/\aY P c.N ops' ops'.toList ops=true/\(match EU ops with|some ds=>decide ds.Nodup&&yc ops' ds 0 ops'.toList ops|none=>false)=true:=by
  cases code with
  |region id ops' draw=>cases draw with
   |true=>simp only[c7,Oz] at hm;exact⟨id,ops',rfl,hm.1,hm.2⟩
   |false=>simp[c7] at hm
  |_=>simp[c7] at hm
 split at h2
 ·rename_i ds hds
  simp only[Oz,OC] at h2
  exact EV (K:=Q .normal) hmix (fun σ' κ' φ' a' w' hr' hk=>hp.1 _ _ _ _ _ hr' hk) h1 hds h2.1 h2.2 hr hw
 ·cases h2
theorem bA (hw:AW P x (Jm P y Q) σ):AW P (.seq x y) Q σ:=fun hmix c code R hm hp κ φ a w hr=>by
 cases code<;>simp only[c7,O5,Oz] at hm
 refine wp_seq (hw hmix c _ _ hm.1 ⟨?_, ?_, ?_⟩ κ φ a w hr)
 ·intro σ' κ' φ' a' w' hr' hq;exact hq hmix c _ _ hm.2 hp κ' φ' a' w' hr'
 ·intro i σ' κ' φ' a' w' hr' hq;exact hp.2.1 _ _ _ _ _ _ hr' hq
 ·intro σ' κ' φ' a' w' hr' hq;exact hp.2.2 _ _ _ _ _ hr' hq
theorem My {t:SX} {b:Bool} (hc:ev σ.s t= .d (.bool b)) (hx:b=true->AW P x Q σ) (hy:b=false->AW P y Q σ):AW P (.cond t x y) Q σ:=fun hmix c code R hm hp κ φ a w hr=>by
 cases code<;>simp only[c7,O5,Oz] at hm
 have ht:=ag hr hm.1.1
 rw[hc] at ht
 simp only[ae,aQ] at ht
 exact wp_cond_split ht (fun hb=>hx hb hmix c _ _ hm.1.2 hp κ φ a w hr) (fun hb=>hy hb hmix c _ _ hm.2 hp κ φ a w hr)
theorem bm {i:Nat} (hw:AW P x (lw i Q) σ):AW P (.block i x) Q σ:=fun hmix c code R hm hp κ φ a w hr=>by
 cases code<;>simp only[c7,O5,Oz,OI] at hm
 obtain⟨rfl,hm⟩:=hm
 refine wp_block (hw hmix c _ _ hm ⟨?_, ?_, ?_⟩ κ φ a w hr)
 ·intro σ' κ' φ' a' w' hr' hq;exact hp.1 _ _ _ _ _ hr' hq
 ·intro j σ' κ' φ' a' w' hr' hq
  simp only[Exit.inBlock]
  by_cases hj:j=i
  ·simp only[hj,lw,PR] at hq⊢;exact hp.1 _ _ _ _ _ hr' hq
  ·simp only[hj,lw,Pp] at hq⊢;exact hp.2.1 _ _ _ _ _ _ hr' hq
 ·intro σ' κ' φ' a' w' hr' hq;exact hp.2.2 _ _ _ _ _ hr' hq
theorem Mz (I:Nat->St->Prop) (m:Nat) (h0:∃ σ',dB σ σ'/\I m σ') (hround:∀ m σ,I m σ->AW P x (Mx I m Q) σ):AW P (.loop x) Q σ:=fun hmix c code R hm hp κ φ a w hr=>by
 cases code<;>simp only[c7,O5] at hm
 rename_i body
 obtain⟨σ1,himp,hI⟩:=h0
 obtain⟨κ1,φ1,hr⟩:=himp _ _ _ _ _ hr
 refine wp_loop_rounds (m+1) ?_
 have key:∀ n m σ κ φ a w,m<n->I m σ->cE c σ κ φ a w->Code.rounds P body R n a w:=by
  intro n
  induction n with
  |zero=>intro m σ κ φ a w h;omega
  |succ n ih=>
   intro m σ κ φ a w hlt hI hr
   rw[rounds_succ]
   refine hround m σ hI hmix c _ _ hm ⟨?_, ?_, ?_⟩ κ φ a w hr
   ·rintro σ' κ' φ' a' w' hr' ⟨m',σ2,h1,h2,h3⟩
    obtain⟨κ2,φ2,hr2⟩:=h2 _ _ _ _ _ hr'
    exact ih m' σ2 κ2 φ2 a' w' oM h3 hr2
   ·intro i σ' κ' φ' a' w' hr' hq;exact hp.2.1 _ _ _ _ _ _ hr' hq
   ·intro σ' κ' φ' a' w' hr' hq;exact hp.2.2 _ _ _ _ _ hr' hq
 exact key (m+1) m σ1 κ1 φ1 a w oM hI hr
end
section
variable {σ:St}
theorem tk {slot id e sz:Nat} (hs:σ.s slot= .nils):dB σ ⟨aH (gn id .any σ.s) slot (.vec id),aH (lv id .any σ.h) id (.vec e sz [])⟩:=fun c κ φ a w hr=>⟨_,_,hr.vecnil hs⟩
theorem gp {id e sz:Nat} {rows:List (List SV)} {ds:List (List DV)} (hv:σ.h id= .vec e sz rows) (hf:SV.frzR rows=some ds):dB σ ⟨gn id (.slice ds) σ.s,aH (lv id (.slice ds) σ.h) id .dead⟩:=fun c κ φ a w hr=>⟨_,_,hr.freeze hv hf⟩
theorem Jn {id id':Nat} {p:Pt} {σ':St} (hne:id≠id') (h:Bw σ id p id'=some σ'):dB σ σ':=fun c κ φ a w hr=>hr.openAt hne h
theorem HU {id id':Nat} {p:Pt} {m:cB} {d:DV} {ch:Ch} {mk:Nat->SV} (hne:id≠id') (ho:cY m d=some (ch,mk)) (hsh:eP m d) (hg:tm (σ.h id) p=some (mk id')) (hh:σ.h id'=ch):dB σ (yg σ id p id' m d):=fun c κ φ a w hr=>hr.closeAt hne ho hsh hg hh
theorem xf {P:Program} {Q:AX->St->Prop} {ops:List SO} (hw:bh P (Q .normal) ops σ):AW P (.regE ops) Q σ:=fun hmix c code R hm hp κ φ a w hr=>by
 obtain⟨id,ops',rfl,h1,h2⟩:∃ id ops',code= .region id ops' true/\aY P c.N ops' ops'.toList ops=true/\Ar true P c.N ops' ops (ops.map dh) 0 ops'.toList ops=true:=by
  cases code with
  |region id ops' draw=>cases draw with
   |true=>simp only[c7,Oz] at hm;exact⟨id,ops',rfl,hm.1,hm.2⟩
   |false=>simp[c7] at hm
  |_=>simp[c7] at hm
 refine Eb (K:=Q .normal) hmix (fun σ' κ' φ' a' w' hr' hk=>hp.1 _ _ _ _ _ hr' hk) h1 h2 (fun U=>BO (σ:=σ) (σ':=⟨pE (rO σ.s) U σ.s,σ.h⟩) (fun i=>JQ σ.s U i) (fun i=> .inl rfl) c κ φ a w hr) hw
def lk:List (Nat×SV)->Nat->SV
 |[],_=> .d .any
 |(i,v)::l,j=>if j=i then v else lk l j
def lh:List (Nat×Ch)->Nat->Ch
 |[],_=> .dead
 |(i,v)::l,j=>if j=i then v else lh l j
abbrev st (l:List (Nat×SV)) (h:List (Nat×Ch)):St:=⟨lk l,lh h⟩
end
def RV.get (σ:St):RV->Option DV
 | .t n=>SV.lend σ.h (σ.s n)
 | .cell n sz=>match σ.s n with
  | .d (.ptr cs)=>if sz<=cs.length then some (.agg (cs.take sz)) else none
  | .ref id off=>match σ.h id with
   | .box cs=>if off=0/\sz=cs.length then(match SV.lendCs σ.h cs with|some l=>some (.agg l)|none=>none) else none
   |_=>none
  |_=>none
def dc (σ:St):List RV->Option (List DV)
 |[]=>some []
 |r::rs=>match r.get σ,dc σ rs with|some x,some xs=>some (x::xs)|_,_=>none
def bu (σ:St) (rs:List RV):Option DV:=
 match dc σ rs with
 |some [x]=>some x
 |some l=>some (.tup l)
 |none=>none
section
variable {P:Program} {c:Cx} {σ:St} {κ:Nat->Value} {φ:Nat->List Nat} {a:Act} {w:World}
theorem MA (hr:cE c σ κ φ a w) {r:ResultVar} {q:RV} (hm:nu P c.N r q=true) {d:DV} (hg:q.get σ=some d):
  ∃ v,(match r with| .tmp t=>pure (a.tmps.getD t undef)| .cell a' t=>do loadVar t (<-asAddr (a.tmps.getD a' undef)):Sem Value).run P w= .ok v w/\aQ w c.M0 d v:=by
 cases r with
 |tmp t=>
  cases q with
  |t n=>
   simp only[nu,Oz,OI,OC] at hm
   obtain⟨rfl,hn⟩:=hm
   exact⟨_,rfl,ER hr _ _ _ (hr.slots t hn) hg⟩
  |cell _ _=>simp[nu] at hm
 |cell a' t=>
  cases q with
  |t n=>simp[nu] at hm
  |cell n sz=>
   simp only[nu,Oz,OI,OC] at hm
   obtain⟨⟨⟨⟨rfl,hn⟩,h2⟩,h3⟩,rfl⟩:=hm
   split at h2
   ·rename_i td htd
    have hs:=hr.slots a' hn
    simp only[RV.get] at hg
    split at hg
    ·rename_i cs heq
     rw[heq] at hs
     simp only[ae,aQ] at hs
     obtain⟨b,o,hv,hm',hlt,hat⟩:=hs
     split at hg
     ·rename_i hle
      simp only[Oy] at hg;subst hg
      obtain⟨vs,hl,hone,hcell⟩:=hat.values
      have hlen:=hl.length
      have:=np (P:=P) (w:=w) (b:=b) (o:=o) (vs:=vs.take (P.cellsOf t)) htd h2 h3 oT (fun j v hj=>hcell j v (by
       rw[PJ] at hj;split at hj
       ·exact hj
       ·cases hj))
      refine⟨.agg (vs.take (P.cellsOf t)).toArray,by simp[hv,asAddr,this], ?_⟩
      unfold aQ
      exact⟨_,rfl,fun z hz=>hone z (O0 hz),(hl.take _).ext (lL.shrink fun b hb=> .inl hb)⟩
     ·cases hg
    ·rename_i id off heq
     rw[heq] at hs
     simp only[ae] at hs
     obtain⟨b,hkb,hv⟩:=hs
     split at hg
     ·rename_i cs hbox
      split at hg
      ·rename_i hoff
       obtain⟨rfl,hsz⟩:=hoff
       split at hg
       ·rename_i l hl'
        simp only[Oy] at hg;subst hg
        have hch:=hr.chunks id
        rw[hbox] at hch
        obtain⟨b',T,vs,G,hk',hheap,h1',hl,hφ⟩:=hch
        rw[hkb] at hk';simp at hk';subst hk'
        have hlen:=hl.length
        have:=np (P:=P) (w:=w) (b:=b) (o:=0) (vs:=vs) htd h2 h3 oM (fun j v hj=>by rw[Ps,cell_of_row w b j _ T _ hheap];simpa using hj)
        refine⟨.agg vs.toArray,by simp[hv,asAddr,this], ?_⟩
        unfold aQ
        exact⟨_,rfl,h1',xd hr (fun b' hb'=>wg hr (id:=id) (by rw[hφ];simp[hb'])) hl hl'⟩
       ·cases hg
      ·cases hg
     ·cases hg
    ·cases hg
   ·cases h2
theorem GX (hr:cE c σ κ φ a w):∀ {rs:List ResultVar} {qs:List RV},g9 P c.N rs qs=true->∀ {ds:List DV},dc σ qs=some ds->
  ∃ vs:List Value,(rs.mapM fun r=>(match r with| .tmp t=>pure (a.tmps.getD t undef)| .cell a' t=>do loadVar t (<-asAddr (a.tmps.getD a' undef)):Sem Value)).run P w= .ok vs w/\aI w c.M0 ds vs
 |[],[],_,ds,h=>by
  simp only[dc,Oy] at h;subst h
  exact⟨[],by simp,by unfold aI;rfl⟩
 |r::rs,q::qs,hm,ds,h=>by
  simp only[g9,Oz] at hm
  simp only[dc] at h
  split at h
  ·rename_i x xs hx hxs
   simp only[Oy] at h;subst h
   obtain⟨v,hv,hrep⟩:=MA hr hm.1 hx
   obtain⟨vs,hvs,hreps⟩:=GX hr hm.2 hxs
   refine⟨v::vs, ?_,by unfold aI;exact⟨v,vs,rfl,hrep,hreps⟩⟩
   simp only[List.mapM_cons,Sem.run_bind,Sem.run_pure]
   rw[hv]
   simp only[Result.andThen_ok,hvs]
  ·cases h
 |[],_::_,hm,_,_=>by simp[g9] at hm
 |_::_,[],hm,_,_=>by simp[g9] at hm
theorem K4 (hr:cE c σ κ φ a w) {fn:Func} {qs:List RV} (hm:g9 P c.N fn.results.toList qs=true) {d:DV} (h:bu σ qs=some d):∃ v,(results fn a.tmps).run P w= .ok v w/\aQ w c.M0 d v:=by
 unfold bu at h
 cases hl:dc σ qs with
 |none=>simp[hl] at h
 |some ds=>
  obtain⟨vs,hvs,hrep⟩:=GX hr hm hl
  have hmap:∀ g:ResultVar->Sem Value,(fn.results.mapM g).run P w=((fn.results.toList.mapM g).run P w).andThen fun l w'=> .ok l.toArray w':=fun g=>by
   rw[Array.mapM_eq_mapM_toList]
   simp
  have hrun:(results fn a.tmps).run P w= .ok (if h:vs.toArray.size=1 then vs.toArray[0] else .tuple vs.toArray) w:=by
   unfold results
   simp only[Sem.run_bind]
   rw[hmap]
   exact congrArg (fun r:Result (List Value)=>(r.andThen fun l w'=>Result.ok l.toArray w').andThen fun(a:Array Value) w'=>Sem.run P (pure (if h:a.size=1 then a[0] else Value.tuple a)) w') hvs
  refine⟨_,hrun, ?_⟩
  have hlen:=hrep.length
  rw[hl] at h
  match ds,h,hrep,hlen with
  |[x],h,hrep,hlen=>
   simp only[Oy] at h;subst h
   unfold aI at hrep
   obtain⟨u,us,rfl,h1,h2⟩:=hrep
   unfold aI at h2;subst h2
   simpa using h1
  |[],h,hrep,hlen=>
   simp only[Oy] at h;subst h
   simp at hlen;subst hlen
   unfold aQ
   exact⟨[],by simp,hrep⟩
  |x::y::l,h,hrep,hlen=>
   simp only[Oy] at h;subst h
   unfold aQ
   refine⟨vs, ?_,hrep⟩
   simp only[OW] at hlen
   rw[dif_neg oT]
end
def GY (args:List DV):Nat->SV:=fun i=>match args[i]? with|some x=> .d x|none=> .d .any
def fits (P:Program) (f:FuncId) (fn:Func) (x:SC) (qs:List RV) (n:Nat):Bool:=
 P.follows .mixedOrders&&o_ P f&&(match fn.body with|some c=>c7 P fn.ntmps x c|none=>false)&&g9 P fn.ntmps fn.results.toList qs&&decide (n<=fn.ntmps)
theorem C7 {P:Program} {f:FuncId} {fn:Func} {x:SC} {qs:List RV} {n:Nat} (hfit:fits P f fn x qs n=true):P.follows .mixedOrders=true/\o_ P f=true/\(∃ c,fn.body=some c/\c7 P fn.ntmps x c=true)/\g9 P fn.ntmps fn.results.toList qs=true/\n<=fn.ntmps:=by
 unfold fits at hfit
 simp only[Oz,OC] at hfit
 obtain⟨⟨⟨⟨hmix,hcal⟩,hm1⟩,hm2⟩,hm3⟩:=hfit
 refine⟨hmix,hcal, ?_,hm2,hm3⟩
 split at hm1
 ·rename_i c hc;exact⟨c,hc,hm1⟩
 ·cases hm1
def K5 (qs:List RV) (res:DV):AX->St->Prop
 | .normal,σ=>∃ σ',dB σ σ'/\bu σ' qs=some res
 | .exit _,_=>False
 | .ret,σ=>∃ σ',dB σ σ'/\bu σ' qs=some res
theorem af {P:Program} {f:FuncId} {fn:Func} {x:SC} {qs:List RV} {args:List DV} {res:DV} (hf:P.funcs[f]?=some fn) (hfit:fits P f fn x qs args.length=true)
  (h:AW P x (K5 qs res) ⟨GY args,fun _=> .dead⟩):aa P f args res:=by
 obtain⟨hmix,hcal,⟨code,hb,hm1⟩,hm2,hm3⟩:=C7 hfit
 refine⟨hcal,fun w M vs hM hrep hgood=> ?_⟩
 have hlen:=hrep.length
 refine calls_of_wp hf hb ?_
 let c:Cx:=⟨w.heap.size,w,M,fun _=>False,fn.ntmps,[],hgood,fun _ _ h=>h,OH _⟩
 have hown:own c (fun _=>[])=M:=by
  funext b;apply propext;unfold own
  constructor
  ·rintro(h|⟨_,h⟩)
   ·exact h
   ·simp at h
  ·exact .inl
 have hr:cE c ⟨GY args,fun _=> .dead⟩ (fun _=> .pointer none) (fun _=>[]) {tmps:=vs.toArray++Array.replicate (fn.ntmps - vs.toArray.size) undef,defers:=[]} w:=by
  refine⟨yZ.refl _ _ _,OH _,fun b hb=>⟨hM b hb,id⟩, ?_,rfl,fun _=>rfl,fun i hi=> ?_,fun i v hv=> ?_,fun _=>rfl,fun _ b hb=> ?_,fun _=>List.nodup_nil,fun _ _ b _ hb=> ?_⟩
  ·show _=fn.ntmps
   simp;omega
  ·rw[hown]
   simp only[GY]
   cases ha:args[i]? with
   |none=>simp[ae,aQ]
   |some y=>
    obtain⟨v,hv,hrv⟩:=hrep.get ha
    have hi':i<vs.length:=(OG.1 hv).1
    simp only[ae]
    rw[PB,Array.getElem?_append_left (by simpa using hi')]
    simp[hv,hrv]
  ·simp[c] at hv
  ·simp at hb
  ·simp at hb
 have fin:∀ σ κ φ a w',cE c σ κ φ a w'->(∃ σ',dB σ σ'/\bu σ' qs=some res)->a.defers=[]/\∃ v,(results fn a.tmps).run P w'= .ok v w'/\(∃ u,Ending.returned v= .returned u/\aQ w' M res u/\Below w.heap.size w w'):=by
  rintro σ κ φ a w' hr' ⟨σ',himp,hq⟩
  obtain⟨κ',φ',hr'⟩:=himp _ _ _ _ _ hr'
  obtain⟨v,hv,hrv⟩:=K4 hr' hm2 hq
  exact⟨hr'.defers,v,hv,v,rfl,hrv,hr'.chg.below fun _ h=>h⟩
 exact h hmix c code _ hm1 ⟨fun σ κ φ a w' hr' hq=>fin σ κ φ a w' hr' hq,fun i σ κ φ a w' hr' hq=>hq.elim,fun σ κ φ a w' hr' hq=>fin σ κ φ a w' hr' hq⟩ _ _ _ _ hr
