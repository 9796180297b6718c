/-
  My text.
-/
import Derived.Test.YtgmnipfafmphaaaGreatDoorSYEngT
import Derived.LoopN
namespace Go.Proofs.YtgmnipfafmphaaaGreatDoor
set_option linter.unusedSimpArgs false
set_option linter.unusedVariables false
open Go.RowKit
inductive RV where
 |t (n:Nat)
 |cell (n sz:Nat)
variable {P:Program} {d:DV} {e:Nat} {f:FuncId} {fn:Func} {g i id:Nat} {ops:List SO} {p:Pt} {qs:List RV} {sz:Nat}
def lC (P:Program) (N:Nat):ResultVar->RV->Bool
 | .tmp t,.t n=>t==n&&decide (n<N)
 | .cell a t,.cell n sz=>a==n&&decide (n<N)&&(match P.underlying t with|some d=>kq d|none=>false)&&(P.info? t).isSome&&P.cellsOf t==sz
 |_,_=>false
def hY (P:Program) (N:Nat):List ResultVar->List RV->Bool
 |[],[]=>true
 |r::rs,q::qs=>lC P N r q&&hY P N rs qs
 |_,_=>false
inductive SC where
 |skip
 |reg (ops:List SO)
 |regD (ops:List SO)
 |regE (ops:List SO)
 |regP (π:List Nat) (ops:List SO)
 |regV (π:List Nat) (pre:List SO) (x1 x2:SO) (post:List SO)
 |seq (x y:SC)
 |cond (c:SX) (x y:SC)
 |block (id:Nat) (x:SC)
 |loop (x:SC)
 |exit (id:Nat)
 |ret
 |rangeM (d0:Nat) (m:SX) (d2 dn df de b1 b2:Nat) (sos:List SO) (x:SC)
 |inl (k:Nat) (sos:List SO) (N:Nat) (x:SC) (qs:List RV)
 |any
variable {x:SC}
inductive AX where
 |normal
 |exit (id:Nat)
 |ret
 deriving DecidableEq
variable {Q:AX->St->Prop}
def G7 (P:Program) (N:Nat) (π:List Nat) (ops:Array Oper) (i:Nat) (p s2:List SO):Bool:=
 AR i ops π p s2&&bo P N (eH ops (i+1) i) (eH ops (i+1) i).toList p&&JI P N (eH ops (i+1) i) p (p.map bF) 0 (eH ops (i+1) i).toList p&&
 ku π (eH ops i (i+1))&&bo P N (c1 π (eH ops i (i+1))) (c1 π (eH ops i (i+1))).toList s2&&JI P N (c1 π (eH ops i (i+1))) s2 (s2.map bF) 0 (c1 π (eH ops i (i+1))).toList s2
def ND (P:Program) (d0:Nat):Op->Bool
 | .range t (.tmp x)=>x==d0&&(match P.underlying t with|some (.map _ _)=>true|_=>false)
 |_=>false
def PR (d2:Nat):Op->Bool
 | .next (.tmp x) false=>x==d2
 |_=>false
def NE (d2:Nat):Op->Bool
 | .entry (.tmp x)=>x==d2
 |_=>false
def PS (dn:Nat):Op->Bool
 | .extract (.tmp x) 0=>x==dn
 |_=>false
def Q_ (P:Program) (N d0:Nat) (m:SX) (d2 dn df de:Nat) (o1 o2 o3:Array Oper) (sos:List SO):Bool:=
 match o1.toList,o2.toList,o3.toList with
 |[p,q],[S,V],e::z=>bo P N o1 [p] [.r d0 (.mv m)]&&q.guard.isNone&&q.dst==some d2&&ND P d0 q.op&&S.guard.isNone&&S.dst==some dn&&PR d2 S.op&&V.guard.isNone&&V.dst==some df&&PS dn V.op&&
   e.guard.isNone&&e.dst==some de&&NE d2 e.op&&decide (d0<N)&&decide (d2<N)&&decide (dn<N)&&decide (df<N)&&decide (de<N)&&decide (d2≠dn)&&decide (d2≠df)&&decide (dn≠df)&&bo P N o3 z sos
 |_,_,_=>false
def dW (P:Program) (N:Nat):SC->Code->Bool
 | .skip,.skip=>true
 | .reg sos,.region _ ops false=>bo P N ops ops.toList sos
 | .regD sos,.region _ ops true=>bo P N ops ops.toList sos&&(match Fu sos with|some J=>decide J.Nodup&&wj ops J 0 ops.toList sos|none=>false)
 | .regE sos,.region _ ops true=>bo P N ops ops.toList sos&&vp true P N ops sos (sos.map bF) 0 ops.toList sos
 | .regP π sos,.region _ ops true=>ku π ops&&bo P N (c1 π ops) (c1 π ops).toList sos&&vp true P N (c1 π ops) sos (sos.map bF) 0 (c1 π ops).toList sos
 | .regV π pre x1 x2 post,.region _ ops true=>G7 P N π ops pre.length (pre++x1::x2::post) (pre++x2::x1::post)
 | .seq x y,.seq a b=>dW P N x a&&dW P N y b
 | .cond t x y,.cond o a b=>aH N o t&&dW P N x a&&dW P N y b
 | .block i x,.block j a=>i==j&&dW P N x a
 | .loop x,.loop a=>dW P N x a
 | .exit i,.exit j=>i==j
 | .ret,.ret=>true
 | .rangeM d0 m d2 dn df de b1 b2 sos x,.seq (.region _ o1 false) (.block T (.loop (.seq (.region _ o2 false) (.seq (.cond (.tmp t) .skip (.exit c2)) (.block S (.seq (.region _ o3 false) y))))))=>
   Q_ P N d0 m d2 dn df de o1 o2 o3 sos&&T==b1&&c2==b1&&S==b2&&t==df&&decide (b1≠b2)&&dW P N x y
 | .inl k sos p x qs,.region _ ops false=>bo P N ops ops.toList sos&&(match sos[k]? with
   |some (.p _ (.f f) args)=>jW P f&&(match P.funcs[f]? with
    |some fn=>decide (fn.ntmps=p)&&decide (args.length<=p)&&hY P p fn.results.toList qs&&(match fn.body with|some g=>dW P p x g|none=>false)
    |none=>false)
   |_=>false)
 | .any,_=>true
 |_,_=>false
def PT (c:Cx) (Q:AX->St->Prop) (R:Exit->Act->World->Prop):Prop:=
 (∀ σ κ φ a w,cW c σ κ φ a w->Q .normal σ->R .normal a w)/\
 (∀ i σ κ φ a w,cW c σ κ φ a w->Q (.exit i) σ->R (.exit i) a w)/\
 (∀ σ κ φ a w,cW c σ κ φ a w->Q .ret σ->R .ret a w)
def AW (P:Program) (x:SC) (Q:AX->St->Prop) (σ:St):Prop:=
 P.follows .mixedOrders=true->∀ (c:Cx) (g:Code) (R:Exit->Act->World->Prop),dW P c.N x g=true->PT c Q R->∀ κ φ a w,cW c σ κ φ a w->g.wp P R a w
def Lb (P:Program) (y:SC) (Q:AX->St->Prop):AX->St->Prop
 | .normal,σ=>AW P y Q σ
 | .exit i,σ=>Q (.exit i) σ
 | .ret,σ=>Q .ret σ
def mE (id:Nat) (Q:AX->St->Prop):AX->St->Prop
 | .normal,σ=>Q .normal σ
 | .exit i,σ=>if i=id then Q .normal σ else Q (.exit i) σ
 | .ret,σ=>Q .ret σ
def G8 (I:Nat->St->Prop) (m:Nat) (Q:AX->St->Prop):AX->St->Prop
 | .normal,σ=>∃ m' O,m'<m/\bm σ O/\I m' O
 | .exit i,σ=>Q (.exit i) σ
 | .ret,σ=>Q .ret σ
section
variable {P:Program} {x y:SC} {Q s:AX->St->Prop} {σ O:St}
theorem pO (h:bm σ O) (G:AW P x Q O):AW P x Q σ:=fun l c g R Z Y κ φ a w D=>by
 obtain⟨N,h7,h8⟩:=h c κ φ a w D
 exact G l c g R Z Y N h7 a w h8
theorem D3 (h:∀ e σ,Q e σ->s e σ) (G:AW P x Q σ):AW P x s σ:=fun l c g R Z Y κ φ a w D=>
 G l c g R Z ⟨fun σ κ φ a w D hq=>Y.1 σ κ φ a w D (h _ _ hq),fun i σ κ φ a w D hq=>Y.2.1 i σ κ φ a w D (h _ _ hq),fun σ κ φ a w D hq=>Y.2.2 σ κ φ a w D (h _ _ hq)⟩ κ φ a w D
theorem b5 (G:Q .normal σ):AW P .skip Q σ:=fun _ c g R Z Y κ φ a w D=>by
 cases g<;>simp[dW] at Z
 exact wp_skip (Y.1 _ _ _ _ _ D G)
theorem d9 (G:Q .ret σ):AW P .ret Q σ:=fun _ c g R Z Y κ φ a w D=>by
 cases g<;>simp[dW] at Z
 exact wp_ret (Y.2.2 _ _ _ _ _ D G)
theorem cN (G:Q (.exit i) σ):AW P (.exit i) Q σ:=fun _ c g R Z Y κ φ a w D=>by
 cases g<;>simp only[dW,Tb,S_] at Z
 subst Z
 exact wp_exit (Y.2.1 _ _ _ _ _ _ D G)
theorem cv (G:aD P (Q .normal) ops σ):AW P (.reg ops) Q σ:=fun _ c g R Z Y κ φ a w D=>by
 obtain⟨id,b,rfl,Z⟩:∃ id b,g= .region id b false/\bo P c.N b b.toList ops=true:=by
  cases g with
  |region id b d=>cases d with
   |false=>exact⟨id,b,rfl,Z⟩
   |true=>simp[dW] at Z
  |_=>simp[dW] at Z
 exact Eg (K:=Q .normal) (fun O N h7 a' w' h8 hk=>Y.1 _ _ _ _ _ h8 hk) Z D G
theorem fl (G:aD P (Q .normal) ops σ):AW P (.regD ops) Q σ:=fun l c g R Z Y κ φ a w D=>by
 obtain⟨id,b,rfl,h1,h2⟩:∃ id b,g= .region id b true/\bo P c.N b b.toList ops=true/\(match Fu ops with|some J=>decide J.Nodup&&wj b J 0 b.toList ops|none=>false)=true:=by
  cases g with
  |region id b d=>cases d with
   |true=>simp only[dW,SR] at Z;exact⟨id,b,rfl,Z.1,Z.2⟩
   |false=>simp[dW] at Z
  |_=>simp[dW] at Z
 split at h2
 ·rename_i J r6
  simp only[SR,S5] at h2
  exact Fv (K:=Q .normal) l (fun O N h7 a' w' h8 hk=>Y.1 _ _ _ _ _ h8 hk) h1 r6 h2.1 h2.2 D G
 ·cases h2
theorem cC (G:AW P x (Lb P y Q) σ):AW P (.seq x y) Q σ:=fun l c g R Z Y κ φ a w D=>by
 cases g<;>simp only[dW,Tb,SR] at Z
 refine wp_seq (G l c _ _ Z.1 ⟨?_, ?_, ?_⟩ κ φ a w D)
 ·intro O N h7 a' w' h8 hq;exact hq l c _ _ Z.2 Y N h7 a' w' h8
 ·intro i O N h7 a' w' h8 hq;exact Y.2.1 _ _ _ _ _ _ h8 hq
 ·intro O N h7 a' w' h8 hq;exact Y.2.2 _ _ _ _ _ h8 hq
theorem PU {t:SX} {b:Bool} (hc:ev σ.s t= .d (.bool b)) (hx:b=true->AW P x Q σ) (hy:b=false->AW P y Q σ):AW P (.cond t x y) Q σ:=fun l c g R Z Y κ φ a w D=>by
 cases g<;>simp only[dW,Tb,SR] at Z
 have ht:=ak D Z.1.1
 rw[hc] at ht
 simp only[ai,aW] at ht
 exact wp_cond_split ht (fun hb=>hx hb l c _ _ Z.1.2 Y κ φ a w D) (fun hb=>hy hb l c _ _ Z.2 Y κ φ a w D)
theorem bn (G:AW P x (mE i Q) σ):AW P (.block i x) Q σ:=fun l c g R Z Y κ φ a w D=>by
 cases g<;>simp only[dW,Tb,SR,S_] at Z
 obtain⟨rfl,Z⟩:=Z
 refine wp_block (G l c _ _ Z ⟨?_, ?_, ?_⟩ κ φ a w D)
 ·intro O N h7 a' w' h8 hq;exact Y.1 _ _ _ _ _ h8 hq
 ·intro j O N h7 a' w' h8 hq
  simp only[Exit.inBlock]
  by_cases hj:j=i
  ·simp only[hj,mE,TB] at hq⊢;exact Y.1 _ _ _ _ _ h8 hq
  ·simp only[hj,mE,Tq] at hq⊢;exact Y.2.1 _ _ _ _ _ _ h8 hq
 ·intro O N h7 a' w' h8 hq;exact Y.2.2 _ _ _ _ _ h8 hq
theorem Lc (I:Nat->St->Prop) (m:Nat) (h0:∃ O,bm σ O/\I m O) (b:∀ m σ,I m σ->AW P x (G8 I m Q) σ):AW P (.loop x) Q σ:=fun l c g R Z Y κ φ a w D=>by
 cases g<;>simp only[dW,Tb] at Z
 rename_i body
 obtain⟨j,r3,hI⟩:=h0
 obtain⟨r7,h4,D⟩:=r3 _ _ _ _ _ D
 refine wp_loop_rounds (m+1) ?_
 have key:∀ n m σ κ φ a w,m<n->I m σ->cW c σ κ φ a w->Code.rounds P body R n a w:=by
  intro n
  induction n with
  |zero=>intro m σ κ φ a w h;omega
  |succ n ih=>
   intro m σ κ φ a w X hI D
   rw[rounds_succ]
   refine b m σ hI l c _ _ Z ⟨?_, ?_, ?_⟩ κ φ a w D
   ·rintro O N h7 a' w' h8 ⟨m',r6,h1,h2,E⟩
    obtain⟨qo,w8,s9⟩:=h2 _ _ _ _ _ h8
    exact ih m' r6 qo w8 a' w' oM E s9
   ·intro i O N h7 a' w' h8 hq;exact Y.2.1 _ _ _ _ _ _ h8 hq
   ·intro O N h7 a' w' h8 hq;exact Y.2.2 _ _ _ _ _ h8 hq
 exact key (m+1) m j r7 h4 a w oM hI D
end
section
variable {σ:St}
theorem An {d:Nat} (hs:σ.s d= .nils):bm σ ⟨am (bl id .any σ.s) d (.vec id),am (bG id .any σ.h) id (.vec e sz [])⟩:=fun c κ φ a w D=>⟨_,_,D.vecnil hs⟩
theorem vi {rows:List (List SV)} {J:List (List DV)} (hv:σ.h id= .vec e sz rows) (C:SV.frzR rows=some J):bm σ ⟨bl id (.slice J) σ.s,am (bG id (.slice J) σ.h) id .dead⟩:=fun c κ φ a w D=>⟨_,_,D.freeze hv C⟩
theorem sG {O:St} (U:id≠g) (h:rb σ id p g=some O):bm σ O:=fun c κ φ a w D=>D.openAt U h
theorem nO {m:bj} {ch:Ch} {mk:Nat->SV} (U:id≠g) (ho:cf m d=some (ch,mk)) (i:eZ m d) (hg:jZ (σ.h id) p=some (mk g)) (hh:σ.h g=ch):bm σ (iu σ id p g m d):=fun c κ φ a w D=>D.closeAt U ho i hg hh
theorem jH (G:aD P (Q .normal) ops σ):AW P (.regE ops) Q σ:=fun l c g R Z Y κ φ a w D=>by
 obtain⟨id,b,rfl,h1,h2⟩:∃ id b,g= .region id b true/\bo P c.N b b.toList ops=true/\vp true P c.N b ops (ops.map bF) 0 b.toList ops=true:=by
  cases g with
  |region id b d=>cases d with
   |true=>simp only[dW,SR] at Z;exact⟨id,b,rfl,Z.1,Z.2⟩
   |false=>simp[dW] at Z
  |_=>simp[dW] at Z
 refine Ej (K:=Q .normal) l (fun O N h7 a' w' h8 hk=>Y.1 _ _ _ _ _ h8 hk) h1 h2 (fun U=>pT (σ:=σ) (O:=⟨nh (oh σ.s) U σ.s,σ.h⟩) (fun i=>FP σ.s U i) (fun i=> .inl rfl) c κ φ a w D) G
theorem D4 {π:List Nat} (G:aD P (Q .normal) ops σ):AW P (.regP π ops) Q σ:=fun l c g R Z Y κ φ a w D=>by
 obtain⟨id,b,rfl,h0,h1,h2⟩:∃ id b,g= .region id b true/\ku π b=true/\bo P c.N (c1 π b) (c1 π b).toList ops=true/\vp true P c.N (c1 π b) ops (ops.map bF) 0 (c1 π b).toList ops=true:=by
  cases g with
  |region id b d=>
   cases d with
   |true=>
    simp only[dW,SR] at Z
    exact⟨id,b,rfl,Z.1.1,Z.1.2,Z.2⟩
   |false=>simp[dW] at Z
  |_=>simp[dW] at Z
 exact Ek l D (fun O N h7 a' w' h8 hk=>Y.1 _ _ _ _ _ h8 hk) h0 h1 h2 G
def lk:List (Nat×SV)->Nat->SV
 |[],_=> .d .any
 |(i,v)::l,j=>if j=i then v else lk l j
def lh:List (Nat×Ch)->Nat->Ch
 |[],_=> .dead
 |(i,v)::l,j=>if j=i then v else lh l j
abbrev st (l:List (Nat×SV)) (h:List (Nat×Ch)):St:=⟨lk l,lh h⟩
def Ao (σ:St):List (Nat×SV)->Prop
 |[]=>True
 |(i,v)::l=>σ.s i=v/\Ao σ l
def Ap (σ:St):List (Nat×Ch)->Prop
 |[]=>True
 |(i,v)::l=>σ.h i=v/\Ap σ l
theorem D5 {l:List (Nat×SV)} {h:List (Nat×Ch)} (hs:Ao σ l) (hh:Ap σ h):bm σ (st l h):=by
 refine pT (fun i=> ?_) (fun i=> ?_)
 ·show lk l i=σ.s i\/lk l i= .d .any
  induction l with
  |nil=>exact .inr rfl
  |cons p l ih=>
   obtain⟨j,v⟩:=p
   simp only[Ao] at hs
   simp only[lk]
   split
   ·rename_i he;subst he;exact .inl hs.1.symm
   ·exact ih hs.2
 ·show lh h i=σ.h i\/lh h i= .dead
  induction h with
  |nil=>exact .inr rfl
  |cons p l ih=>
   obtain⟨j,v⟩:=p
   simp only[Ap] at hh
   simp only[lh]
   split
   ·rename_i he;subst he;exact .inl hh.1.symm
   ·exact ih hh.2
end
def RV.get (σ:St):RV->Option DV
 | .t n=>SV.lend σ.h (σ.s n)
 | .cell n sz=>match σ.s n with
  | .d (.ptr cs)=>if sz<=cs.length then some (.agg (cs.take sz)) else none
  | .ref id off=>match σ.h id with
   | .box cs=>if off=0/\sz=cs.length then(match SV.lendCs σ.h cs with|some l=>some (.agg l)|none=>none) else none
   |_=>none
  |_=>none
def im (σ:St):List RV->Option (List DV)
 |[]=>some []
 |r::rs=>match r.get σ,im σ rs with|some x,some xs=>some (x::xs)|_,_=>none
def dE (σ:St) (rs:List RV):Option DV:=
 match im σ rs with
 |some [x]=>some x
 |some l=>some (.tup l)
 |none=>none
section
variable {P:Program} {c:Cx} {σ:St} {κ:Nat->Value} {φ:Nat->List Nat} {a:Act} {w:World}
theorem PV (D:cW c σ κ φ a w) {r:ResultVar} {q:RV} (Z:lC P c.N r q=true) (hg:q.get σ=some d):
  ∃ v,(match r with| .tmp t=>pure (a.tmps.getD t undef)| .cell a' t=>do loadVar t (<-asAddr (a.tmps.getD a' undef)):Sem Value).run P w= .ok v w/\aW w c.M0 d v:=by
 cases r with
 |tmp t=>
  cases q with
  |t n=>
   simp only[lC,SR,S_,S5] at Z
   obtain⟨rfl,hn⟩:=Z
   exact⟨_,rfl,Fs D _ _ _ (D.slots t hn) hg⟩
  |cell _ _=>simp[lC] at Z
 |cell a' t=>
  cases q with
  |t n=>simp[lC] at Z
  |cell n sz=>
   simp only[lC,SR,S_,S5] at Z
   obtain⟨⟨⟨⟨rfl,hn⟩,h2⟩,E⟩,rfl⟩:=Z
   split at h2
   ·rename_i S e
    have hs:=D.slots a' hn
    simp only[RV.get] at hg
    split at hg
    ·rename_i cs B
     rw[B] at hs
     simp only[ai,aW] at hs
     obtain⟨b,o,hv,r7,X,u9⟩:=hs
     split at hg
     ·rename_i s0
      simp only[SN] at hg;subst hg
      obtain⟨vs,hl,h9,L⟩:=u9.values
      have I:=hl.length
      have:=lz (P:=P) (w:=w) (b:=b) (o:=o) (vs:=vs.take (P.cellsOf t)) e h2 E oT (fun j v hj=>L j v (by
       rw[Ub] at hj;split at hj
       ·exact hj
       ·cases hj))
      refine⟨.agg (vs.take (P.cellsOf t)).toArray,by simp[hv,asAddr,this], ?_⟩
      unfold aW
      exact⟨_,rfl,fun z hz=>h9 z (Tv hz),(hl.take _).ext (jE.shrink fun b hb=> .inl hb)⟩
     ·cases hg
    ·rename_i id off B
     rw[B] at hs
     simp only[ai] at hs
     obtain⟨b,r5,hv⟩:=hs
     split at hg
     ·rename_i cs M
      split at hg
      ·rename_i g
       obtain⟨rfl,F⟩:=g
       split at hg
       ·rename_i l f
        simp only[SN] at hg;subst hg
        have r0:=D.chunks id
        rw[M] at r0
        obtain⟨b',T,vs,G,r2,u,u6,hl,K⟩:=r0
        rw[r5] at r2;simp at r2;subst r2
        have I:=hl.length
        have:=lz (P:=P) (w:=w) (b:=b) (o:=0) (vs:=vs) e h2 E oM (fun j v hj=>by rw[Tx,cell_of_row w b j _ T _ u];simpa using hj)
        refine⟨.agg vs.toArray,by simp[hv,asAddr,this], ?_⟩
        unfold aW
        exact⟨_,rfl,u6,vf D (fun b' h6=>tW D (id:=id) (by rw[K];simp[h6])) hl f⟩
       ·cases hg
      ·cases hg
     ·cases hg
    ·cases hg
   ·cases h2
theorem H8 (D:cW c σ κ φ a w):∀ {rs:List ResultVar} {qs:List RV},hY P c.N rs qs=true->∀ {J:List DV},im σ qs=some J->
  ∃ vs:List Value,(rs.mapM fun r=>(match r with| .tmp t=>pure (a.tmps.getD t undef)| .cell a' t=>do loadVar t (<-asAddr (a.tmps.getD a' undef)):Sem Value)).run P w= .ok vs w/\aC w c.M0 J vs
 |[],[],_,J,h=>by
  simp only[im,SN] at h;subst h
  exact⟨[],by simp,by unfold aC;rfl⟩
 |r::rs,q::qs,Z,J,h=>by
  simp only[hY,SR] at Z
  simp only[im] at h
  split at h
  ·rename_i x xs hx T
   simp only[SN] at h;subst h
   obtain⟨v,hv,V⟩:=PV D Z.1 hx
   obtain⟨vs,e,b⟩:=H8 D Z.2 T
   refine⟨v::vs, ?_,by unfold aC;exact⟨v,vs,rfl,V,b⟩⟩
   simp only[List.mapM_cons,Sem.run_bind,Sem.run_pure]
   rw[hv]
   simp only[Result.andThen_ok,e]
  ·cases h
 |[],_::_,Z,_,_=>by simp[hY] at Z
 |_::_,[],Z,_,_=>by simp[hY] at Z
theorem NF (D:cW c σ κ φ a w) (Z:hY P c.N fn.results.toList qs=true) (h:dE σ qs=some d):∃ v,(results fn a.tmps).run P w= .ok v w/\aW w c.M0 d v:=by
 unfold dE at h
 cases hl:im σ qs with
 |none=>simp[hl] at h
 |some J=>
  obtain⟨vs,e,V⟩:=H8 D Z hl
  have s5:∀ g:ResultVar->Sem Value,(fn.results.mapM g).run P w=((fn.results.toList.mapM g).run P w).andThen fun l w'=> .ok l.toArray w':=fun g=>by
   rw[Array.mapM_eq_mapM_toList]
   simp
  have H:(results fn a.tmps).run P w= .ok (if h:vs.toArray.size=1 then vs.toArray[0] else .tuple vs.toArray) w:=by
   unfold results
   simp only[Sem.run_bind]
   rw[s5]
   exact TX (fun r:Result (List Value)=>(r.andThen fun l w'=>Result.ok l.toArray w').andThen fun(a:Array Value) w'=>Sem.run P (pure (if h:a.size=1 then a[0] else Value.tuple a)) w') e
  refine⟨_,H, ?_⟩
  have I:=V.length
  rw[hl] at h
  match J,h,V,I with
  |[x],h,V,I=>
   simp only[SN] at h;subst h
   unfold aC at V
   obtain⟨u,R,rfl,h1,h2⟩:=V
   unfold aC at h2;subst h2
   simpa using h1
  |[],h,V,I=>
   simp only[SN] at h;subst h
   simp at I;subst I
   unfold aW
   exact⟨[],by simp,V⟩
  |x::y::l,h,V,I=>
   simp only[SN] at h;subst h
   unfold aW
   refine⟨vs, ?_,V⟩
   simp only[ST] at I
   rw[dif_neg oT]
end
def H9 (args:List DV):Nat->SV:=fun i=>match args[i]? with|some x=> .d x|none=> .d .any
def fits (P:Program) (f:FuncId) (fn:Func) (x:SC) (qs:List RV) (n:Nat):Bool:=
 P.follows .mixedOrders&&jW P f&&(match fn.body with|some c=>dW P fn.ntmps x c|none=>false)&&hY P fn.ntmps fn.results.toList qs&&decide (n<=fn.ntmps)
theorem CU {n:Nat} (o:fits P f fn x qs n=true):P.follows .mixedOrders=true/\jW P f=true/\(∃ c,fn.body=some c/\dW P fn.ntmps x c=true)/\hY P fn.ntmps fn.results.toList qs=true/\n<=fn.ntmps:=by
 unfold fits at o
 simp only[SR,S5] at o
 obtain⟨⟨⟨⟨l,h6⟩,Z⟩,r7⟩,h0⟩:=o
 refine⟨l,h6, ?_,r7,h0⟩
 split at Z
 ·rename_i c hc;exact⟨c,hc,Z⟩
 ·cases Z
def Jt (qs:List RV) (res:DV):AX->St->Prop
 | .normal,σ=>∃ O,bm σ O/\dE O qs=some res
 | .exit _,_=>False
 | .ret,σ=>∃ O,bm σ O/\dE O qs=some res
theorem av {args:List DV} {res:DV} (C:P.funcs[f]?=some fn) (o:fits P f fn x qs args.length=true) (h:AW P x (Jt qs res) ⟨H9 args,fun _=> .dead⟩):ac P f args res:=by
 obtain⟨l,h6,⟨g,hb,Z⟩,r7,h0⟩:=CU o
 refine⟨h6,fun w M vs hM V S=> ?_⟩
 have I:=V.length
 refine calls_of_wp C hb ?_
 let c:Cx:=⟨w.heap.size,w,M,fun _=>False,fn.ntmps,[],S,fun _ _ h=>h,SZ _⟩
 have X:own c (fun _=>[])=M:=by
  funext b;apply propext;unfold own
  constructor
  ·rintro(h|⟨_,h⟩)
   ·exact h
   ·simp at h
  ·exact .inl
 have D:cW c ⟨H9 args,fun _=> .dead⟩ (fun _=> .pointer none) (fun _=>[]) {tmps:=vs.toArray++Array.replicate (fn.ntmps - vs.toArray.size) undef,defers:=[]} w:=by
  refine⟨CI.refl _ _ _,SZ _,fun b hb=>⟨hM b hb,id⟩, ?_,rfl,fun _=>rfl,fun i hi=> ?_,fun i v hv=> ?_,fun _=>rfl,fun _ b hb=> ?_,fun _=>List.nodup_nil,fun _ _ b _ hb=> ?_⟩
  ·show _=fn.ntmps
   simp;omega
  ·rw[X]
   simp only[H9]
   cases ha:args[i]? with
   |none=>simp[ai,aW]
   |some y=>
    obtain⟨v,hv,d⟩:=V.get ha
    have h5:i<vs.length:=(SY.1 hv).1
    simp only[ai]
    rw[TH,Array.getElem?_append_left (by simpa using h5)]
    simp[hv,d]
  ·simp[c] at hv
  ·simp at hb
  ·simp at hb
 have fin:∀ σ κ φ a w',cW c σ κ φ a w'->(∃ O,bm σ O/\dE O qs=some res)->a.defers=[]/\∃ v,(results fn a.tmps).run P w'= .ok v w'/\(∃ u,Ending.returned v= .returned u/\aW w' M res u/\Below w.heap.size w w'):=by
  rintro σ κ φ a w' h8 ⟨O,r3,hq⟩
  obtain⟨N,h7,h8⟩:=r3 _ _ _ _ _ h8
  obtain⟨v,hv,d⟩:=NF h8 r7 hq
  exact⟨h8.defers,v,hv,v,rfl,d,h8.chg.below fun _ h=>h⟩
 exact h l c g _ Z ⟨fun σ κ φ a w' h8 hq=>fin σ κ φ a w' h8 hq,fun i σ κ φ a w' h8 hq=>hq.elim,fun σ κ φ a w' h8 hq=>fin σ κ φ a w' h8 hq⟩ _ _ _ _ D
end Go.Proofs.YtgmnipfafmphaaaGreatDoor

