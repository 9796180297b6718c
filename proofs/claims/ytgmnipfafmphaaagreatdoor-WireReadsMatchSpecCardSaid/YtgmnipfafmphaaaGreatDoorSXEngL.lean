/-
  My text.
-/
import Derived.Test.YtgmnipfafmphaaaGreatDoorSXEngT
import Derived.LoopN
namespace Go.Proofs.YtgmnipfafmphaaaGreatDoor
set_option linter.unusedSimpArgs false
set_option linter.unusedVariables false
open Go.RowKit
inductive RV where
 |t (n:Nat)
 |cell (n sz:Nat)
variable {P:Program} {d:DV} {e:Nat} {f:FuncId} {fn:Func} {g i id:Nat} {ops:List SO} {p:Pt} {qs:List RV} {sz:Nat}
def oz (P:Program) (N:Nat):ResultVar->RV->Bool
 | .tmp t,.t n=>t==n&&decide (n<N)
 | .cell a t,.cell n sz=>a==n&&decide (n<N)&&(match P.underlying t with|some d=>nx d|none=>false)&&(P.info? t).isSome&&P.cellsOf t==sz
 |_,_=>false
def ke (P:Program) (N:Nat):List ResultVar->List RV->Bool
 |[],[]=>true
 |r::rs,q::qs=>oz P N r q&&ke P N rs qs
 |_,_=>false
inductive SC where
 |skip
 |reg (ops:List SO)
 |regD (ops:List SO)
 |regE (ops:List SO)
 |regP (π:List Nat) (ops:List SO)
 |regV (π:List Nat) (pre:List SO) (x1 x2:SO) (post:List SO)
 |seq (x y:SC)
 |cond (c:SX) (x y:SC)
 |block (id:Nat) (x:SC)
 |loop (x:SC)
 |exit (id:Nat)
 |ret
 |rangeM (d0:Nat) (m:SX) (d2 dn df de b1 b2:Nat) (sos:List SO) (x:SC)
 |inl (k:Nat) (sos:List SO) (N:Nat) (x:SC) (qs:List RV)
 |any
variable {x:SC}
inductive AX where
 |normal
 |exit (id:Nat)
 |ret
 deriving DecidableEq
variable {Q:AX->St->Prop}
def Js (P:Program) (N:Nat) (π:List Nat) (ops:Array Oper) (i:Nat) (u s2:List SO):Bool:=
 DF i ops π u s2&&a_ P N (f0 ops (i+1) i) (f0 ops (i+1) i).toList u&&LN P N (f0 ops (i+1) i) u (u.map ca) 0 (f0 ops (i+1) i).toList u&&
 ny π (f0 ops i (i+1))&&a_ P N (dT π (f0 ops i (i+1))) (dT π (f0 ops i (i+1))).toList s2&&LN P N (dT π (f0 ops i (i+1))) s2 (s2.map ca) 0 (dT π (f0 ops i (i+1))).toList s2
def Ps (P:Program) (d0:Nat):Op->Bool
 | .range t (.tmp x)=>x==d0&&(match P.underlying t with|some (.map _ _)=>true|_=>false)
 |_=>false
def RE (d2:Nat):Op->Bool
 | .next (.tmp x) false=>x==d2
 |_=>false
def Pu (d2:Nat):Op->Bool
 | .entry (.tmp x)=>x==d2
 |_=>false
def RF (dn:Nat):Op->Bool
 | .extract (.tmp x) 0=>x==dn
 |_=>false
def Tm (P:Program) (N d0:Nat) (m:SX) (d2 dn df de:Nat) (o1 o2 o3:Array Oper) (sos:List SO):Bool:=
 match o1.toList,o2.toList,o3.toList with
 |[p,q],[o,V],e::z=>a_ P N o1 [p] [.r d0 (.mv m)]&&q.guard.isNone&&q.dst==some d2&&Ps P d0 q.op&&o.guard.isNone&&o.dst==some dn&&RE d2 o.op&&V.guard.isNone&&V.dst==some df&&RF dn V.op&&
   e.guard.isNone&&e.dst==some de&&Pu d2 e.op&&decide (d0<N)&&decide (d2<N)&&decide (dn<N)&&decide (df<N)&&decide (de<N)&&decide (d2≠dn)&&decide (d2≠df)&&decide (dn≠df)&&a_ P N o3 z sos
 |_,_,_=>false
def dS (P:Program) (N:Nat):SC->Code->Bool
 | .skip,.skip=>true
 | .reg sos,.region _ ops false=>a_ P N ops ops.toList sos
 | .regD sos,.region _ ops true=>a_ P N ops ops.toList sos&&(match HS sos with|some J=>decide J.Nodup&&ze ops J 0 ops.toList sos|none=>false)
 | .regE sos,.region _ ops true=>a_ P N ops ops.toList sos&&yx true P N ops sos (sos.map ca) 0 ops.toList sos
 | .regP π sos,.region _ ops true=>ny π ops&&a_ P N (dT π ops) (dT π ops).toList sos&&yx true P N (dT π ops) sos (sos.map ca) 0 (dT π ops).toList sos
 | .regV π pre x1 x2 post,.region _ ops true=>Js P N π ops pre.length (pre++x1::x2::post) (pre++x2::x1::post)
 | .seq x y,.seq a b=>dS P N x a&&dS P N y b
 | .cond t x y,.cond o a b=>aP N o t&&dS P N x a&&dS P N y b
 | .block i x,.block j a=>i==j&&dS P N x a
 | .loop x,.loop a=>dS P N x a
 | .exit i,.exit j=>i==j
 | .ret,.ret=>true
 | .rangeM d0 m d2 dn df de b1 b2 sos x,.seq (.region _ o1 false) (.block T (.loop (.seq (.region _ o2 false) (.seq (.cond (.tmp t) .skip (.exit c2)) (.block S (.seq (.region _ o3 false) y))))))=>
   Tm P N d0 m d2 dn df de o1 o2 o3 sos&&T==b1&&c2==b1&&S==b2&&t==df&&decide (b1≠b2)&&dS P N x y
 | .inl k sos p x qs,.region _ ops false=>a_ P N ops ops.toList sos&&(match sos[k]? with
   |some (.p _ (.f f) args)=>mV P f&&(match P.funcs[f]? with
    |some fn=>decide (fn.ntmps=p)&&decide (args.length<=p)&&ke P p fn.results.toList qs&&(match fn.body with|some g=>dS P p x g|none=>false)
    |none=>false)
   |_=>false)
 | .any,_=>true
 |_,_=>false
def RG (c:Cx) (Q:AX->St->Prop) (R:Exit->Act->World->Prop):Prop:=
 (∀ σ κ φ a w,dp c σ κ φ a w->Q .normal σ->R .normal a w)/\
 (∀ i σ κ φ a w,dp c σ κ φ a w->Q (.exit i) σ->R (.exit i) a w)/\
 (∀ σ κ φ a w,dp c σ κ φ a w->Q .ret σ->R .ret a w)
def AW (P:Program) (x:SC) (Q:AX->St->Prop) (σ:St):Prop:=
 P.follows .mixedOrders=true->∀ (c:Cx) (g:Code) (R:Exit->Act->World->Prop),dS P c.N x g=true->RG c Q R->∀ κ φ a w,dp c σ κ φ a w->g.wp P R a w
def Na (P:Program) (y:SC) (Q:AX->St->Prop):AX->St->Prop
 | .normal,σ=>AW P y Q σ
 | .exit i,σ=>Q (.exit i) σ
 | .ret,σ=>Q .ret σ
def pG (id:Nat) (Q:AX->St->Prop):AX->St->Prop
 | .normal,σ=>Q .normal σ
 | .exit i,σ=>if i=id then Q .normal σ else Q (.exit i) σ
 | .ret,σ=>Q .ret σ
def Jt (I:Nat->St->Prop) (m:Nat) (Q:AX->St->Prop):AX->St->Prop
 | .normal,σ=>∃ m' O,m'<m/\bt σ O/\I m' O
 | .exit i,σ=>Q (.exit i) σ
 | .ret,σ=>Q .ret σ
section
variable {P:Program} {x y:SC} {Q A:AX->St->Prop} {σ O:St}
theorem p2 (h:bt σ O) (G:AW P x Q O):AW P x Q σ:=fun p c g R Z Y κ φ a w D=>by
 obtain⟨W,h7,h8⟩:=h c κ φ a w D
 exact G p c g R Z Y W h7 a w h8
theorem Gv (h:∀ e σ,Q e σ->A e σ) (G:AW P x Q σ):AW P x A σ:=fun p c g R Z Y κ φ a w D=>
 G p c g R Z ⟨fun σ κ φ a w D hq=>Y.1 σ κ φ a w D (h _ _ hq),fun i σ κ φ a w D hq=>Y.2.1 i σ κ φ a w D (h _ _ hq),fun σ κ φ a w D hq=>Y.2.2 σ κ φ a w D (h _ _ hq)⟩ κ φ a w D
theorem bR (G:Q .normal σ):AW P .skip Q σ:=fun _ c g R Z Y κ φ a w D=>by
 cases g<;>simp[dS] at Z
 exact wp_skip (Y.1 _ _ _ _ _ D G)
theorem dL (G:Q .ret σ):AW P .ret Q σ:=fun _ c g R Z Y κ φ a w D=>by
 cases g<;>simp[dS] at Z
 exact wp_ret (Y.2.2 _ _ _ _ _ D G)
theorem cN (G:Q (.exit i) σ):AW P (.exit i) Q σ:=fun _ c g R Z Y κ φ a w D=>by
 cases g<;>simp only[dS,Vw,Vz] at Z
 subst Z
 exact wp_exit (Y.2.1 _ _ _ _ _ _ D G)
theorem cm (G:aI P (Q .normal) ops σ):AW P (.reg ops) Q σ:=fun _ c g R Z Y κ φ a w D=>by
 obtain⟨id,b,rfl,Z⟩:∃ id b,g= .region id b false/\a_ P c.N b b.toList ops=true:=by
  cases g with
  |region id b n=>cases n with
   |false=>exact⟨id,b,rfl,Z⟩
   |true=>simp[dS] at Z
  |_=>simp[dS] at Z
 exact GJ (K:=Q .normal) (fun O W h7 a' w' h8 hk=>Y.1 _ _ _ _ _ h8 hk) Z D G
theorem eG (G:aI P (Q .normal) ops σ):AW P (.regD ops) Q σ:=fun p c g R Z Y κ φ a w D=>by
 obtain⟨id,b,rfl,h1,h2⟩:∃ id b,g= .region id b true/\a_ P c.N b b.toList ops=true/\(match HS ops with|some J=>decide J.Nodup&&ze b J 0 b.toList ops|none=>false)=true:=by
  cases g with
  |region id b n=>cases n with
   |true=>simp only[dS,Vj] at Z;exact⟨id,b,rfl,Z.1,Z.2⟩
   |false=>simp[dS] at Z
  |_=>simp[dS] at Z
 split at h2
 ·rename_i J L
  simp only[Vj,Vv] at h2
  exact HU (K:=Q .normal) p (fun O W h7 a' w' h8 hk=>Y.1 _ _ _ _ _ h8 hk) h1 L h2.1 h2.2 D G
 ·cases h2
theorem cE (G:AW P x (Na P y Q) σ):AW P (.seq x y) Q σ:=fun p c g R Z Y κ φ a w D=>by
 cases g<;>simp only[dS,Vw,Vj] at Z
 refine wp_seq (G p c _ _ Z.1 ⟨?_, ?_, ?_⟩ κ φ a w D)
 ·intro O W h7 a' w' h8 hq;exact hq p c _ _ Z.2 Y W h7 a' w' h8
 ·intro i O W h7 a' w' h8 hq;exact Y.2.1 _ _ _ _ _ _ h8 hq
 ·intro O W h7 a' w' h8 hq;exact Y.2.2 _ _ _ _ _ h8 hq
theorem RH {t:SX} {b:Bool} (hc:ev σ.s t= .d (.bool b)) (hx:b=true->AW P x Q σ) (hy:b=false->AW P y Q σ):AW P (.cond t x y) Q σ:=fun p c g R Z Y κ φ a w D=>by
 cases g<;>simp only[dS,Vw,Vj] at Z
 have ht:=aq D Z.1.1
 rw[hc] at ht
 simp only[al,bf] at ht
 exact wp_cond_split ht (fun hb=>hx hb p c _ _ Z.1.2 Y κ φ a w D) (fun hb=>hy hb p c _ _ Z.2 Y κ φ a w D)
theorem bu (G:AW P x (pG i Q) σ):AW P (.block i x) Q σ:=fun p c g R Z Y κ φ a w D=>by
 cases g<;>simp only[dS,Vw,Vj,Vz] at Z
 obtain⟨rfl,Z⟩:=Z
 refine wp_block (G p c _ _ Z ⟨?_, ?_, ?_⟩ κ φ a w D)
 ·intro O W h7 a' w' h8 hq;exact Y.1 _ _ _ _ _ h8 hq
 ·intro j O W h7 a' w' h8 hq
  simp only[Exit.inBlock]
  by_cases hj:j=i
  ·simp only[hj,pG,VW] at hq⊢;exact Y.1 _ _ _ _ _ h8 hq
  ·simp only[hj,pG,VQ] at hq⊢;exact Y.2.1 _ _ _ _ _ _ h8 hq
 ·intro O W h7 a' w' h8 hq;exact Y.2.2 _ _ _ _ _ h8 hq
theorem Nb (I:Nat->St->Prop) (m:Nat) (h0:∃ O,bt σ O/\I m O) (b:∀ m σ,I m σ->AW P x (Jt I m Q) σ):AW P (.loop x) Q σ:=fun p c g R Z Y κ φ a w D=>by
 cases g<;>simp only[dS,Vw] at Z
 rename_i body
 obtain⟨z,r6,hI⟩:=h0
 obtain⟨s0,h4,D⟩:=r6 _ _ _ _ _ D
 refine wp_loop_rounds (m+1) ?_
 have key:∀ n m σ κ φ a w,m<n->I m σ->dp c σ κ φ a w->Code.rounds P body R n a w:=by
  intro n
  induction n with
  |zero=>intro m σ κ φ a w h;omega
  |succ n ih=>
   intro m σ κ φ a w h9 hI D
   rw[rounds_succ]
   refine b m σ hI p c _ _ Z ⟨?_, ?_, ?_⟩ κ φ a w D
   ·rintro O W h7 a' w' h8 ⟨m',r0,h1,h2,E⟩
    obtain⟨qh,w4,r9⟩:=h2 _ _ _ _ _ h8
    exact ih m' r0 qh w4 a' w' oM E r9
   ·intro i O W h7 a' w' h8 hq;exact Y.2.1 _ _ _ _ _ _ h8 hq
   ·intro O W h7 a' w' h8 hq;exact Y.2.2 _ _ _ _ _ h8 hq
 exact key (m+1) m z s0 h4 a w oM hI D
end
section
variable {σ:St}
theorem uw {d:Nat} (hs:σ.s d= .nils):bt σ ⟨ap (bG id .any σ.s) d (.vec id),ap (bK id .any σ.h) id (.vec e sz [])⟩:=fun c κ φ a w D=>⟨_,_,D.vecnil hs⟩
theorem la {rows:List (List SV)} {J:List (List DV)} (hv:σ.h id= .vec e sz rows) (C:SV.frzR rows=some J):bt σ ⟨bG id (.slice J) σ.s,ap (bK id (.slice J) σ.h) id .dead⟩:=fun c κ φ a w D=>⟨_,_,D.freeze hv C⟩
theorem vW {O:St} (U:id≠g) (h:uy σ id p g=some O):bt σ O:=fun c κ φ a w D=>D.openAt U h
theorem nN {m:bH} {ch:Ch} {mk:Nat->SV} (U:id≠g) (ho:cP m d=some (ch,mk)) (i:gm m d) (L:mm (σ.h id) p=some (mk g)) (hh:σ.h g=ch):bt σ (hR σ id p g m d):=fun c κ φ a w D=>D.closeAt U ho i L hh
theorem i7 (G:aI P (Q .normal) ops σ):AW P (.regE ops) Q σ:=fun p c g R Z Y κ φ a w D=>by
 obtain⟨id,b,rfl,h1,h2⟩:∃ id b,g= .region id b true/\a_ P c.N b b.toList ops=true/\yx true P c.N b ops (ops.map ca) 0 b.toList ops=true:=by
  cases g with
  |region id b n=>cases n with
   |true=>simp only[dS,Vj] at Z;exact⟨id,b,rfl,Z.1,Z.2⟩
   |false=>simp[dS] at Z
  |_=>simp[dS] at Z
 refine GO (K:=Q .normal) p (fun O W h7 a' w' h8 hk=>Y.1 _ _ _ _ _ h8 hk) h1 h2 (fun U=>tU (σ:=σ) (O:=⟨qQ (rT σ.s) U σ.s,σ.h⟩) (fun i=>Ie σ.s U i) (fun i=> .inl rfl) c κ φ a w D) G
theorem Gw {π:List Nat} (G:aI P (Q .normal) ops σ):AW P (.regP π ops) Q σ:=fun p c g R Z Y κ φ a w D=>by
 obtain⟨id,b,rfl,h0,h1,h2⟩:∃ id b,g= .region id b true/\ny π b=true/\a_ P c.N (dT π b) (dT π b).toList ops=true/\yx true P c.N (dT π b) ops (ops.map ca) 0 (dT π b).toList ops=true:=by
  cases g with
  |region id b d=>
   cases d with
   |true=>
    simp only[dS,Vj] at Z
    exact⟨id,b,rfl,Z.1.1,Z.1.2,Z.2⟩
   |false=>simp[dS] at Z
  |_=>simp[dS] at Z
 exact GP p D (fun O W h7 a' w' h8 hk=>Y.1 _ _ _ _ _ h8 hk) h0 h1 h2 G
def lk:List (Nat×SV)->Nat->SV
 |[],_=> .d .any
 |(i,v)::l,j=>if j=i then v else lk l j
def lh:List (Nat×Ch)->Nat->Ch
 |[],_=> .dead
 |(i,v)::l,j=>if j=i then v else lh l j
abbrev st (l:List (Nat×SV)) (h:List (Nat×Ch)):St:=⟨lk l,lh h⟩
def C7 (σ:St):List (Nat×SV)->Prop
 |[]=>True
 |(i,v)::l=>σ.s i=v/\C7 σ l
def C8 (σ:St):List (Nat×Ch)->Prop
 |[]=>True
 |(i,v)::l=>σ.h i=v/\C8 σ l
theorem Gx {l:List (Nat×SV)} {h:List (Nat×Ch)} (hs:C7 σ l) (hh:C8 σ h):bt σ (st l h):=by
 refine tU (fun i=> ?_) (fun i=> ?_)
 ·show lk l i=σ.s i\/lk l i= .d .any
  induction l with
  |nil=>exact .inr rfl
  |cons p l ih=>
   obtain⟨j,v⟩:=p
   simp only[C7] at hs
   simp only[lk]
   split
   ·rename_i he;subst he;exact .inl hs.1.symm
   ·exact ih hs.2
 ·show lh h i=σ.h i\/lh h i= .dead
  induction h with
  |nil=>exact .inr rfl
  |cons p l ih=>
   obtain⟨j,v⟩:=p
   simp only[C8] at hh
   simp only[lh]
   split
   ·rename_i he;subst he;exact .inl hh.1.symm
   ·exact ih hh.2
end
def RV.get (σ:St):RV->Option DV
 | .t n=>SV.lend σ.h (σ.s n)
 | .cell n sz=>match σ.s n with
  | .d (.ptr cs)=>if sz<=cs.length then some (.agg (cs.take sz)) else none
  | .ref id off=>match σ.h id with
   | .box cs=>if off=0/\sz=cs.length then(match SV.lendCs σ.h cs with|some l=>some (.agg l)|none=>none) else none
   |_=>none
  |_=>none
def Ju (σ:St):List RV->Option (List DV)
 |[]=>some []
 |r::rs=>match r.get σ,Ju σ rs with|some x,some xs=>some (x::xs)|_,_=>none
def vX (σ:St) (rs:List RV):Option DV:=
 match Ju σ rs with
 |some [x]=>some x
 |some l=>some (.tup l)
 |none=>none
section
variable {P:Program} {c:Cx} {σ:St} {κ:Nat->Value} {φ:Nat->List Nat} {a:Act} {w:World}
theorem RI (D:dp c σ κ φ a w) {r:ResultVar} {q:RV} (Z:oz P c.N r q=true) (L:q.get σ=some d):
  ∃ v,(match r with| .tmp t=>pure (a.tmps.getD t undef)| .cell a' t=>do loadVar t (<-asAddr (a.tmps.getD a' undef)):Sem Value).run P w= .ok v w/\bf w c.M0 d v:=by
 cases r with
 |tmp t=>
  cases q with
  |t n=>
   simp only[oz,Vj,Vz,Vv] at Z
   obtain⟨rfl,hn⟩:=Z
   exact⟨_,rfl,HQ D _ _ _ (D.slots t hn) L⟩
  |cell _ _=>simp[oz] at Z
 |cell a' t=>
  cases q with
  |t n=>simp[oz] at Z
  |cell n sz=>
   simp only[oz,Vj,Vz,Vv] at Z
   obtain⟨⟨⟨⟨rfl,hn⟩,h2⟩,E⟩,rfl⟩:=Z
   split at h2
   ·rename_i S e
    have hs:=D.slots a' hn
    simp only[RV.get] at L
    split at L
    ·rename_i cs B
     rw[B] at hs
     simp only[al,bf] at hs
     obtain⟨b,o,hv,r6,h9,v1⟩:=hs
     split at L
     ·rename_i s0
      simp only[Vi] at L;subst L
      obtain⟨vs,hl,r1,r0⟩:=v1.values
      have I:=hl.length
      have:=ov (P:=P) (w:=w) (b:=b) (o:=o) (vs:=vs.take (P.cellsOf t)) e h2 E oT (fun j v hj=>r0 j v (by
       rw[WE] at hj;split at hj
       ·exact hj
       ·cases hj))
      refine⟨.agg (vs.take (P.cellsOf t)).toArray,by simp[hv,asAddr,this], ?_⟩
      unfold bf
      exact⟨_,rfl,fun z hz=>r1 z (VU hz),(hl.take _).ext (mG.shrink fun b hb=> .inl hb)⟩
     ·cases L
    ·rename_i id off B
     rw[B] at hs
     simp only[al] at hs
     obtain⟨b,r8,hv⟩:=hs
     split at L
     ·rename_i cs s
      split at L
      ·rename_i g
       obtain⟨rfl,F⟩:=g
       split at L
       ·rename_i l f
        simp only[Vi] at L;subst L
        have H:=D.chunks id
        rw[s] at H
        obtain⟨b',T,vs,G,r5,u,u8,hl,r4⟩:=H
        rw[r8] at r5;simp at r5;subst r5
        have I:=hl.length
        have:=ov (P:=P) (w:=w) (b:=b) (o:=0) (vs:=vs) e h2 E oM (fun j v hj=>by rw[VD,cell_of_row w b j _ T _ u];simpa using hj)
        refine⟨.agg vs.toArray,by simp[hv,asAddr,this], ?_⟩
        unfold bf
        exact⟨_,rfl,u8,yn D (fun b' h6=>xj D (id:=id) (by rw[r4];simp[h6])) hl f⟩
       ·cases L
      ·cases L
     ·cases L
    ·cases L
   ·cases h2
theorem Ku (D:dp c σ κ φ a w):∀ {rs:List ResultVar} {qs:List RV},ke P c.N rs qs=true->∀ {J:List DV},Ju σ qs=some J->
  ∃ vs:List Value,(rs.mapM fun r=>(match r with| .tmp t=>pure (a.tmps.getD t undef)| .cell a' t=>do loadVar t (<-asAddr (a.tmps.getD a' undef)):Sem Value)).run P w= .ok vs w/\aM w c.M0 J vs
 |[],[],_,J,h=>by
  simp only[Ju,Vi] at h;subst h
  exact⟨[],by simp,by unfold aM;rfl⟩
 |r::rs,q::qs,Z,J,h=>by
  simp only[ke,Vj] at Z
  simp only[Ju] at h
  split at h
  ·rename_i x xs hx T
   simp only[Vi] at h;subst h
   obtain⟨v,hv,V⟩:=RI D Z.1 hx
   obtain⟨vs,e,b⟩:=Ku D Z.2 T
   refine⟨v::vs, ?_,by unfold aM;exact⟨v,vs,rfl,V,b⟩⟩
   simp only[List.mapM_cons,Sem.run_bind,Sem.run_pure]
   rw[hv]
   simp only[Result.andThen_ok,e]
  ·cases h
 |[],_::_,Z,_,_=>by simp[ke] at Z
 |_::_,[],Z,_,_=>by simp[ke] at Z
theorem Pv (D:dp c σ κ φ a w) (Z:ke P c.N fn.results.toList qs=true) (h:vX σ qs=some d):∃ v,(results fn a.tmps).run P w= .ok v w/\bf w c.M0 d v:=by
 unfold vX at h
 cases hl:Ju σ qs with
 |none=>simp[hl] at h
 |some J=>
  obtain⟨vs,e,V⟩:=Ku D Z hl
  have s3:∀ g:ResultVar->Sem Value,(fn.results.mapM g).run P w=((fn.results.toList.mapM g).run P w).andThen fun l w'=> .ok l.toArray w':=fun g=>by
   rw[Array.mapM_eq_mapM_toList]
   simp
  have U:(results fn a.tmps).run P w= .ok (if h:vs.toArray.size=1 then vs.toArray[0] else .tuple vs.toArray) w:=by
   unfold results
   simp only[Sem.run_bind]
   rw[s3]
   exact Wf (fun r:Result (List Value)=>(r.andThen fun l w'=>Result.ok l.toArray w').andThen fun(a:Array Value) w'=>Sem.run P (pure (if h:a.size=1 then a[0] else Value.tuple a)) w') e
  refine⟨_,U, ?_⟩
  have I:=V.length
  rw[hl] at h
  match J,h,V,I with
  |[x],h,V,I=>
   simp only[Vi] at h;subst h
   unfold aM at V
   obtain⟨u,X,rfl,h1,h2⟩:=V
   unfold aM at h2;subst h2
   simpa using h1
  |[],h,V,I=>
   simp only[Vi] at h;subst h
   simp at I;subst I
   unfold bf
   exact⟨[],by simp,V⟩
  |x::y::l,h,V,I=>
   simp only[Vi] at h;subst h
   unfold bf
   refine⟨vs, ?_,V⟩
   simp only[Vk] at I
   rw[dif_neg oT]
end
def Kv (args:List DV):Nat->SV:=fun i=>match args[i]? with|some x=> .d x|none=> .d .any
def fits (P:Program) (f:FuncId) (fn:Func) (x:SC) (qs:List RV) (n:Nat):Bool:=
 P.follows .mixedOrders&&mV P f&&(match fn.body with|some c=>dS P fn.ntmps x c|none=>false)&&ke P fn.ntmps fn.results.toList qs&&decide (n<=fn.ntmps)
theorem Fm {n:Nat} (o:fits P f fn x qs n=true):P.follows .mixedOrders=true/\mV P f=true/\(∃ c,fn.body=some c/\dS P fn.ntmps x c=true)/\ke P fn.ntmps fn.results.toList qs=true/\n<=fn.ntmps:=by
 unfold fits at o
 simp only[Vj,Vv] at o
 obtain⟨⟨⟨⟨p,h6⟩,s3⟩,r8⟩,L⟩:=o
 refine⟨p,h6, ?_,r8,L⟩
 split at s3
 ·rename_i c hc;exact⟨c,hc,s3⟩
 ·cases s3
def Jv (qs:List RV) (res:DV):AX->St->Prop
 | .normal,σ=>∃ O,bt σ O/\vX O qs=some res
 | .exit _,_=>False
 | .ret,σ=>∃ O,bt σ O/\vX O qs=some res
theorem au {args:List DV} {res:DV} (C:P.funcs[f]?=some fn) (o:fits P f fn x qs args.length=true) (h:AW P x (Jv qs res) ⟨Kv args,fun _=> .dead⟩):ac P f args res:=by
 obtain⟨p,h6,⟨g,hb,s3⟩,r8,L⟩:=Fm o
 refine⟨h6,fun w M vs hM V k=> ?_⟩
 have I:=V.length
 refine calls_of_wp C hb ?_
 let c:Cx:=⟨w.heap.size,w,M,fun _=>False,fn.ntmps,[],k,fun _ _ h=>h,Vs _⟩
 have h9:own c (fun _=>[])=M:=by
  funext b;apply propext;unfold own
  constructor
  ·rintro(h|⟨_,h⟩)
   ·exact h
   ·simp at h
  ·exact .inl
 have D:dp c ⟨Kv args,fun _=> .dead⟩ (fun _=> .pointer none) (fun _=>[]) {tmps:=vs.toArray++Array.replicate (fn.ntmps - vs.toArray.size) undef,defers:=[]} w:=by
  refine⟨Fa.refl _ _ _,Vs _,fun b hb=>⟨hM b hb,id⟩, ?_,rfl,fun _=>rfl,fun i hi=> ?_,fun i v hv=> ?_,fun _=>rfl,fun _ b hb=> ?_,fun _=>List.nodup_nil,fun _ _ b _ hb=> ?_⟩
  ·show _=fn.ntmps
   simp;omega
  ·rw[h9]
   simp only[Kv]
   cases ha:args[i]? with
   |none=>simp[al,bf]
   |some y=>
    obtain⟨v,hv,d⟩:=V.get ha
    have h5:i<vs.length:=(Vr.1 hv).1
    simp only[al]
    rw[V2,Array.getElem?_append_left (by simpa using h5)]
    simp[hv,d]
  ·simp[c] at hv
  ·simp at hb
  ·simp at hb
 have fin:∀ σ κ φ a w',dp c σ κ φ a w'->(∃ O,bt σ O/\vX O qs=some res)->a.defers=[]/\∃ v,(results fn a.tmps).run P w'= .ok v w'/\(∃ u,Ending.returned v= .returned u/\bf w' M res u/\Below w.heap.size w w'):=by
  rintro σ κ φ a w' h8 ⟨O,r6,hq⟩
  obtain⟨W,h7,h8⟩:=r6 _ _ _ _ _ h8
  obtain⟨v,hv,d⟩:=Pv h8 r8 hq
  exact⟨h8.defers,v,hv,v,rfl,d,h8.chg.below fun _ h=>h⟩
 exact h p c g _ s3 ⟨fun σ κ φ a w' h8 hq=>fin σ κ φ a w' h8 hq,fun i σ κ φ a w' h8 hq=>hq.elim,fun σ κ φ a w' h8 hq=>fin σ κ φ a w' h8 hq⟩ _ _ _ _ D
