/-
  My text.
-/
import Derived.Test.YteaolfcegaidpaaGreatDoorSZEngT
import Derived.LoopN
namespace Go.Proofs.YteaolfcegaidpaaGreatDoor
set_option linter.unusedSimpArgs false
set_option linter.unusedVariables false
open Go.RowKit
inductive RV where
 |t (n:Nat)
 |cell (n sz:Nat)
variable {P:Program} {d:DV} {e:Nat} {f:FuncId} {fn:Func} {g i id:Nat} {ops:List SO} {p:Pt} {qs:List RV} {sz:Nat}
def nV (P:Program) (N:Nat):ResultVar->RV->Bool
 | .tmp t,.t n=>t==n&&decide (n<N)
 | .cell a t,.cell n sz=>a==n&&decide (n<N)&&(match P.underlying t with|some d=>jF d|none=>false)&&(P.info? t).isSome&&P.cellsOf t==sz
 |_,_=>false
def hW (P:Program) (N:Nat):List ResultVar->List RV->Bool
 |[],[]=>true
 |r::rs,q::qs=>nV P N r q&&hW P N rs qs
 |_,_=>false
inductive SC where
 |skip
 |reg (ops:List SO)
 |regD (ops:List SO)
 |regE (ops:List SO)
 |regP (π:List Nat) (ops:List SO)
 |regV (π:List Nat) (pre:List SO) (x1 x2:SO) (post:List SO)
 |seq (x y:SC)
 |cond (c:SX) (x y:SC)
 |block (id:Nat) (x:SC)
 |loop (x:SC)
 |exit (id:Nat)
 |ret
 |rangeM (d0:Nat) (m:SX) (d2 dn df de b1 b2:Nat) (sos:List SO) (x:SC)
 |inl (k:Nat) (sos:List SO) (N:Nat) (x:SC) (qs:List RV)
 |inlC (f nc k:Nat) (sos:List SO) (N:Nat) (x:SC) (qs:List RV)
 |any
variable {x:SC}
inductive AX where
 |normal
 |exit (id:Nat)
 |ret
 deriving DecidableEq
variable {Q:AX->St->Prop}
def P7 (P:Program) (N:Nat) (π:List Nat) (ops:Array Oper) (i:Nat) (p s2:List SO):Bool:=
 Qq i ops π p s2&&bh P N (GP ops (i+1) i) (GP ops (i+1) i).toList p&&Rt P N (GP ops (i+1) i) p (p.map c0) 0 (GP ops (i+1) i).toList p&&
 vp π (GP ops i (i+1))&&bh P N (fB π (GP ops i (i+1))) (fB π (GP ops i (i+1))).toList s2&&Rt P N (fB π (GP ops i (i+1))) s2 (s2.map c0) 0 (fB π (GP ops i (i+1))).toList s2
def Gr (P:Program) (d0:Nat):Op->Bool
 | .range t (.tmp x)=>x==d0&&(match P.underlying t with|some (.map _ _)=>true|_=>false)
 |_=>false
def I1 (d2:Nat):Op->Bool
 | .next (.tmp x) false=>x==d2
 |_=>false
def Gs (d2:Nat):Op->Bool
 | .entry (.tmp x)=>x==d2
 |_=>false
def I2 (dn:Nat):Op->Bool
 | .extract (.tmp x) 0=>x==dn
 |_=>false
def Mi (P:Program) (N d0:Nat) (m:SX) (d2 dn df de:Nat) (o1 o2 o3:Array Oper) (sos:List SO):Bool:=
 match o1.toList,o2.toList,o3.toList with
 |[p,q],[U,n2],e::T=>bh P N o1 [p] [.r d0 (.mv m)]&&q.guard.isNone&&q.dst==some d2&&Gr P d0 q.op&&U.guard.isNone&&U.dst==some dn&&I1 d2 U.op&&n2.guard.isNone&&n2.dst==some df&&I2 dn n2.op&&
   e.guard.isNone&&e.dst==some de&&Gs d2 e.op&&decide (d0<N)&&decide (d2<N)&&decide (dn<N)&&decide (df<N)&&decide (de<N)&&decide (d2≠dn)&&decide (d2≠df)&&decide (dn≠df)&&bh P N o3 T sos
 |_,_,_=>false
def cT (P:Program) (N:Nat):SC->Code->Bool
 | .skip,.skip=>true
 | .reg sos,.region _ ops false=>bh P N ops ops.toList sos
 | .regD sos,.region _ ops true=>bh P N ops ops.toList sos&&(match HD sos with|some O=>decide O.Nodup&&zY ops O 0 ops.toList sos|none=>false)
 | .regE sos,.region _ ops true=>bh P N ops ops.toList sos&&zc true P N ops sos (sos.map c0) 0 ops.toList sos
 | .regP π sos,.region _ ops true=>vp π ops&&bh P N (fB π ops) (fB π ops).toList sos&&zc true P N (fB π ops) sos (sos.map c0) 0 (fB π ops).toList sos
 | .regV π pre x1 x2 post,.region _ ops true=>P7 P N π ops pre.length (pre++x1::x2::post) (pre++x2::x1::post)
 | .seq x y,.seq a b=>cT P N x a&&cT P N y b
 | .cond t x y,.cond o a b=>aG N o t&&cT P N x a&&cT P N y b
 | .block i x,.block j a=>i==j&&cT P N x a
 | .loop x,.loop a=>cT P N x a
 | .exit i,.exit j=>i==j
 | .ret,.ret=>true
 | .rangeM d0 m d2 dn df de b1 b2 sos x,.seq (.region _ o1 false) (.block c1 (.loop (.seq (.region _ o2 false) (.seq (.cond (.tmp t) .skip (.exit z)) (.block u (.seq (.region _ o3 false) y))))))=>
   Mi P N d0 m d2 dn df de o1 o2 o3 sos&&c1==b1&&z==b1&&u==b2&&t==df&&decide (b1≠b2)&&cT P N x y
 | .inl k sos d x qs,.region _ ops false=>bh P N ops ops.toList sos&&(match sos[k]? with
   |some (.p _ (.f f) args)=>mh P f&&(match P.funcs[f]? with
    |some fn=>decide (fn.ntmps=d)&&decide (args.length<=d)&&hW P d fn.results.toList qs&&(match fn.body with|some g=>cT P d x g|none=>false)
    |none=>false)
   |_=>false)
 | .inlC f nc k sos d x qs,.region _ ops false=>bh P N ops ops.toList sos&&(match sos[k]? with
   |some (.p _ (.t _) args)=>mh P f&&(match P.funcs[f]? with
    |some fn=>decide (fn.ntmps=d)&&decide (args.length+nc<=d)&&hW P d fn.results.toList qs&&(match fn.body with|some g=>cT P d x g|none=>false)
    |none=>false)
   |_=>false)
 | .any,_=>true
 |_,_=>false
def Mj (c:Cx) (Q:AX->St->Prop) (R:Exit->Act->World->Prop):Prop:=
 (∀ σ κ φ a w,cH c σ κ φ a w->Q .normal σ->R .normal a w)/\
 (∀ i σ κ φ a w,cH c σ κ φ a w->Q (.exit i) σ->R (.exit i) a w)/\
 (∀ σ κ φ a w,cH c σ κ φ a w->Q .ret σ->R .ret a w)
def AW (P:Program) (x:SC) (Q:AX->St->Prop) (σ:St):Prop:=
 P.follows .mixedOrders=true->∀ (c:Cx) (g:Code) (R:Exit->Act->World->Prop),cT P c.N x g=true->Mj c Q R->∀ κ φ a w,cH c σ κ φ a w->g.wp P R a w
def Mk (P:Program) (y:SC) (Q:AX->St->Prop):AX->St->Prop
 | .normal,σ=>AW P y Q σ
 | .exit i,σ=>Q (.exit i) σ
 | .ret,σ=>Q .ret σ
def ke (id:Nat) (Q:AX->St->Prop):AX->St->Prop
 | .normal,σ=>Q .normal σ
 | .exit i,σ=>if i=id then Q .normal σ else Q (.exit i) σ
 | .ret,σ=>Q .ret σ
def I3 (I:Nat->St->Prop) (m:Nat) (Q:AX->St->Prop):AX->St->Prop
 | .normal,σ=>∃ m' X,m'<m/\cS σ X/\I m' X
 | .exit i,σ=>Q (.exit i) σ
 | .ret,σ=>Q .ret σ
section
variable {P:Program} {x y:SC} {Q L:AX->St->Prop} {σ X:St}
theorem Ft (h:cS σ X) (G:AW P x Q X):AW P x Q σ:=fun D c g R Z hp κ φ a w hr=>by
 obtain⟨W,h6,r1⟩:=h c κ φ a w hr
 exact G D c g R Z hp W h6 a w r1
theorem A7 (h:∀ e σ,Q e σ->L e σ) (G:AW P x Q σ):AW P x L σ:=fun D c g R Z hp κ φ a w hr=>
 G D c g R Z ⟨fun σ κ φ a w hr hq=>hp.1 σ κ φ a w hr (h _ _ hq),fun i σ κ φ a w hr hq=>hp.2.1 i σ κ φ a w hr (h _ _ hq),fun σ κ φ a w hr hq=>hp.2.2 σ κ φ a w hr (h _ _ hq)⟩ κ φ a w hr
theorem aZ (G:Q .normal σ):AW P .skip Q σ:=fun _ c g R Z hp κ φ a w hr=>by
 cases g<;>simp[cT] at Z
 exact wp_skip (hp.1 _ _ _ _ _ hr G)
theorem bF (G:Q .ret σ):AW P .ret Q σ:=fun _ c g R Z hp κ φ a w hr=>by
 cases g<;>simp[cT] at Z
 exact wp_ret (hp.2.2 _ _ _ _ _ hr G)
theorem bN (G:Q (.exit i) σ):AW P (.exit i) Q σ:=fun _ c g R Z hp κ φ a w hr=>by
 cases g<;>simp only[cT,Tj,S1] at Z
 subst Z
 exact wp_exit (hp.2.1 _ _ _ _ _ _ hr G)
theorem bl (G:a6 P (Q .normal) ops σ):AW P (.reg ops) Q σ:=fun _ c g R Z hp κ φ a w hr=>by
 obtain⟨id,b,rfl,Z⟩:∃ id b,g= .region id b false/\bh P c.N b b.toList ops=true:=by
  cases g with
  |region id b n=>cases n with
   |false=>exact⟨id,b,rfl,Z⟩
   |true=>simp[cT] at Z
  |_=>simp[cT] at Z
 exact GI (K:=Q .normal) (fun X W h6 a' w' r1 hk=>hp.1 _ _ _ _ _ r1 hk) Z hr G
theorem l5 (G:a6 P (Q .normal) ops σ):AW P (.regD ops) Q σ:=fun D c g R Z hp κ φ a w hr=>by
 obtain⟨id,b,rfl,h1,h2⟩:∃ id b,g= .region id b true/\bh P c.N b b.toList ops=true/\(match HD ops with|some O=>decide O.Nodup&&zY b O 0 b.toList ops|none=>false)=true:=by
  cases g with
  |region id b n=>cases n with
   |true=>simp only[cT,SR] at Z;exact⟨id,b,rfl,Z.1,Z.2⟩
   |false=>simp[cT] at Z
  |_=>simp[cT] at Z
 split at h2
 ·rename_i O r8
  simp only[SR,SU] at h2
  exact HE (K:=Q .normal) D (fun X W h6 a' w' r1 hk=>hp.1 _ _ _ _ _ r1 hk) h1 r8 h2.1 h2.2 hr G
 ·cases h2
theorem bn (G:AW P x (Mk P y Q) σ):AW P (.seq x y) Q σ:=fun D c g R Z hp κ φ a w hr=>by
 cases g<;>simp only[cT,Tj,SR] at Z
 refine wp_seq (G D c _ _ Z.1 ⟨?_, ?_, ?_⟩ κ φ a w hr)
 ·intro X W h6 a' w' r1 hq;exact hq D c _ _ Z.2 hp W h6 a' w' r1
 ·intro i X W h6 a' w' r1 hq;exact hp.2.1 _ _ _ _ _ _ r1 hq
 ·intro X W h6 a' w' r1 hq;exact hp.2.2 _ _ _ _ _ r1 hq
theorem P8 {t:SX} {b:Bool} (hc:ev σ.s t= .d (.bool b)) (hx:b=true->AW P x Q σ) (hy:b=false->AW P y Q σ):AW P (.cond t x y) Q σ:=fun D c g R Z hp κ φ a w hr=>by
 cases g<;>simp only[cT,Tj,SR] at Z
 have Y:=am hr Z.1.1
 rw[hc] at Y
 simp only[ah,ba] at Y
 exact wp_cond_split Y (fun hb=>hx hb D c _ _ Z.1.2 hp κ φ a w hr) (fun hb=>hy hb D c _ _ Z.2 hp κ φ a w hr)
theorem aX (G:AW P x (ke i Q) σ):AW P (.block i x) Q σ:=fun D c g R Z hp κ φ a w hr=>by
 cases g<;>simp only[cT,Tj,SR,S1] at Z
 obtain⟨rfl,Z⟩:=Z
 refine wp_block (G D c _ _ Z ⟨?_, ?_, ?_⟩ κ φ a w hr)
 ·intro X W h6 a' w' r1 hq;exact hp.1 _ _ _ _ _ r1 hq
 ·intro j X W h6 a' w' r1 hq
  simp only[Exit.inBlock]
  by_cases hj:j=i
  ·simp only[hj,ke,T6] at hq⊢;exact hp.1 _ _ _ _ _ r1 hq
  ·simp only[hj,ke,Tv] at hq⊢;exact hp.2.1 _ _ _ _ _ _ r1 hq
 ·intro X W h6 a' w' r1 hq;exact hp.2.2 _ _ _ _ _ r1 hq
theorem Ml (I:Nat->St->Prop) (m:Nat) (h0:∃ X,cS σ X/\I m X) (b:∀ m σ,I m σ->AW P x (I3 I m Q) σ):AW P (.loop x) Q σ:=fun D c g R Z hp κ φ a w hr=>by
 cases g<;>simp only[cT,Tj] at Z
 rename_i body
 obtain⟨h5,r2,hI⟩:=h0
 obtain⟨r6,r3,hr⟩:=r2 _ _ _ _ _ hr
 refine wp_loop_rounds (m+1) ?_
 have key:∀ n m σ κ φ a w,m<n->I m σ->cH c σ κ φ a w->Code.rounds P body R n a w:=by
  intro n
  induction n with
  |zero=>intro m σ κ φ a w h;omega
  |succ n ih=>
   intro m σ κ φ a w h9 hI hr
   rw[rounds_succ]
   refine b m σ hI D c _ _ Z ⟨?_, ?_, ?_⟩ κ φ a w hr
   ·rintro X W h6 a' w' r1 ⟨m',h4,h1,h2,E⟩
    obtain⟨u4,s9,s2⟩:=h2 _ _ _ _ _ r1
    exact ih m' h4 u4 s9 a' w' oM E s2
   ·intro i X W h6 a' w' r1 hq;exact hp.2.1 _ _ _ _ _ _ r1 hq
   ·intro X W h6 a' w' r1 hq;exact hp.2.2 _ _ _ _ _ r1 hq
 exact key (m+1) m h5 r6 r3 a w oM hI hr
end
section
variable {σ:St}
theorem mL {t:Nat} (hs:σ.s t= .nils):cS σ ⟨aD (eC id .any σ.s) t (.vec id),aD (hT id .any σ.h) id (.vec e sz [])⟩:=fun c κ φ a w hr=>⟨_,_,hr.vecnil hs⟩
theorem gA {rows:List (List SV)} {O:List (List DV)} (hv:σ.h id= .vec e sz rows) (hf:SV.frzR rows=some O):cS σ ⟨eC id (.slice O) σ.s,aD (hT id (.slice O) σ.h) id .dead⟩:=fun c κ φ a w hr=>⟨_,_,hr.freeze hv hf⟩
theorem Mm {X:St} (A:id≠g) (h:Dx σ id p g=some X):cS σ X:=fun c κ φ a w hr=>hr.openAt A h
theorem Fu {m:cO} {ch:Ch} {mk:Nat->SV} (A:id≠g) (ho:cL m d=some (ch,mk)) (l:eQ m d) (hg:uJ (σ.h id) p=some (mk g)) (hh:σ.h g=ch):cS σ (vn σ id p g m d):=fun c κ φ a w hr=>hr.closeAt A ho l hg hh
theorem sa (G:a6 P (Q .normal) ops σ):AW P (.regE ops) Q σ:=fun D c g R Z hp κ φ a w hr=>by
 obtain⟨id,b,rfl,h1,h2⟩:∃ id b,g= .region id b true/\bh P c.N b b.toList ops=true/\zc true P c.N b ops (ops.map c0) 0 b.toList ops=true:=by
  cases g with
  |region id b n=>cases n with
   |true=>simp only[cT,SR] at Z;exact⟨id,b,rfl,Z.1,Z.2⟩
   |false=>simp[cT] at Z
  |_=>simp[cT] at Z
 refine GN (K:=Q .normal) D (fun X W h6 a' w' r1 hk=>hp.1 _ _ _ _ _ r1 hk) h1 h2 (fun U=>xa (σ:=σ) (X:=⟨pT (se σ.s) U σ.s,σ.h⟩) (fun i=>H3 σ.s U i) (fun i=> .inl rfl) c κ φ a w hr) G
theorem Gt {π:List Nat} (G:a6 P (Q .normal) ops σ):AW P (.regP π ops) Q σ:=fun D c g R Z hp κ φ a w hr=>by
 obtain⟨id,b,rfl,h0,h1,h2⟩:∃ id b,g= .region id b true/\vp π b=true/\bh P c.N (fB π b) (fB π b).toList ops=true/\zc true P c.N (fB π b) ops (ops.map c0) 0 (fB π b).toList ops=true:=by
  cases g with
  |region id b d=>
   cases d with
   |true=>
    simp only[cT,SR] at Z
    exact⟨id,b,rfl,Z.1.1,Z.1.2,Z.2⟩
   |false=>simp[cT] at Z
  |_=>simp[cT] at Z
 exact GO D hr (fun X W h6 a' w' r1 hk=>hp.1 _ _ _ _ _ r1 hk) h0 h1 h2 G
def lk:List (Nat×SV)->Nat->SV
 |[],_=> .d .any
 |(i,v)::l,j=>if j=i then v else lk l j
def lh:List (Nat×Ch)->Nat->Ch
 |[],_=> .dead
 |(i,v)::l,j=>if j=i then v else lh l j
abbrev st (l:List (Nat×SV)) (h:List (Nat×Ch)):St:=⟨lk l,lh h⟩
def Dt (σ:St):List (Nat×SV)->Prop
 |[]=>True
 |(i,v)::l=>σ.s i=v/\Dt σ l
def Du (σ:St):List (Nat×Ch)->Prop
 |[]=>True
 |(i,v)::l=>σ.h i=v/\Du σ l
theorem Gu {l:List (Nat×SV)} {h:List (Nat×Ch)} (hs:Dt σ l) (hh:Du σ h):cS σ (st l h):=by
 refine xa (fun i=> ?_) (fun i=> ?_)
 ·show lk l i=σ.s i\/lk l i= .d .any
  induction l with
  |nil=>exact .inr rfl
  |cons p l ih=>
   obtain⟨j,v⟩:=p
   simp only[Dt] at hs
   simp only[lk]
   split
   ·rename_i J;subst J;exact .inl hs.1.symm
   ·exact ih hs.2
 ·show lh h i=σ.h i\/lh h i= .dead
  induction h with
  |nil=>exact .inr rfl
  |cons p l ih=>
   obtain⟨j,v⟩:=p
   simp only[Du] at hh
   simp only[lh]
   split
   ·rename_i J;subst J;exact .inl hh.1.symm
   ·exact ih hh.2
end
def RV.get (σ:St):RV->Option DV
 | .t n=>SV.lend σ.h (σ.s n)
 | .cell n sz=>match σ.s n with
  | .d (.ptr cs)=>if sz<=cs.length then some (.agg (cs.take sz)) else none
  | .ref id off=>match σ.h id with
   | .box cs=>if off=0/\sz=cs.length then(match SV.lendCs σ.h cs with|some l=>some (.agg l)|none=>none) else none
   |_=>none
  |_=>none
def eS (σ:St):List RV->Option (List DV)
 |[]=>some []
 |r::rs=>match r.get σ,eS σ rs with|some x,some xs=>some (x::xs)|_,_=>none
def cE (σ:St) (rs:List RV):Option DV:=
 match eS σ rs with
 |some [x]=>some x
 |some l=>some (.tup l)
 |none=>none
section
variable {P:Program} {c:Cx} {σ:St} {κ:Nat->Value} {φ:Nat->List Nat} {a:Act} {w:World}
theorem P9 (hr:cH c σ κ φ a w) {r:ResultVar} {q:RV} (Z:nV P c.N r q=true) (hg:q.get σ=some d):
  ∃ v,(match r with| .tmp t=>pure (a.tmps.getD t undef)| .cell a' t=>do loadVar t (<-asAddr (a.tmps.getD a' undef)):Sem Value).run P w= .ok v w/\ba w c.M0 d v:=by
 cases r with
 |tmp t=>
  cases q with
  |t n=>
   simp only[nV,SR,S1,SU] at Z
   obtain⟨rfl,hn⟩:=Z
   exact⟨_,rfl,HA hr _ _ _ (hr.slots t hn) hg⟩
  |cell _ _=>simp[nV] at Z
 |cell a' t=>
  cases q with
  |t n=>simp[nV] at Z
  |cell n sz=>
   simp only[nV,SR,S1,SU] at Z
   obtain⟨⟨⟨⟨rfl,hn⟩,h2⟩,E⟩,rfl⟩:=Z
   split at h2
   ·rename_i J e
    have hs:=hr.slots a' hn
    simp only[RV.get] at hg
    split at hg
    ·rename_i cs B
     rw[B] at hs
     simp only[ah,ba] at hs
     obtain⟨b,o,hv,s6,h9,v0⟩:=hs
     split at hg
     ·rename_i r9
      simp only[SN] at hg;subst hg
      obtain⟨vs,hl,s,F⟩:=v0.values
      have h8:=hl.length
      have:=nS (P:=P) (w:=w) (b:=b) (o:=o) (vs:=vs.take (P.cellsOf t)) e h2 E oT (fun j v hj=>F j v (by
       rw[T5] at hj;split at hj
       ·exact hj
       ·cases hj))
      refine⟨.agg (vs.take (P.cellsOf t)).toArray,by simp[hv,asAddr,this], ?_⟩
      unfold ba
      exact⟨_,rfl,fun z hz=>s z (Tm hz),(hl.take _).ext (lA.shrink fun b hb=> .inl hb)⟩
     ·cases hg
    ·rename_i id off B
     rw[B] at hs
     simp only[ah] at hs
     obtain⟨b,r4,hv⟩:=hs
     split at hg
     ·rename_i cs H
      split at hg
      ·rename_i f
       obtain⟨rfl,I⟩:=f
       split at hg
       ·rename_i l m
        simp only[SN] at hg;subst hg
        have r2:=hr.chunks id
        rw[H] at r2
        obtain⟨b',T,vs,G,r3,u,s9,hl,K⟩:=r2
        rw[r4] at r3;simp at r3;subst r3
        have h8:=hl.length
        have:=nS (P:=P) (w:=w) (b:=b) (o:=0) (vs:=vs) e h2 E oM (fun j v hj=>by rw[TJ,cell_of_row w b j _ T _ u];simpa using hj)
        refine⟨.agg vs.toArray,by simp[hv,asAddr,this], ?_⟩
        unfold ba
        exact⟨_,rfl,s9,y6 hr (fun b' h6=>yk hr (id:=id) (by rw[K];simp[h6])) hl m⟩
       ·cases hg
      ·cases hg
     ·cases hg
    ·cases hg
   ·cases h2
theorem JN (hr:cH c σ κ φ a w):∀ {rs:List ResultVar} {qs:List RV},hW P c.N rs qs=true->∀ {O:List DV},eS σ qs=some O->
  ∃ vs:List Value,(rs.mapM fun r=>(match r with| .tmp t=>pure (a.tmps.getD t undef)| .cell a' t=>do loadVar t (<-asAddr (a.tmps.getD a' undef)):Sem Value)).run P w= .ok vs w/\aN w c.M0 O vs
 |[],[],_,O,h=>by
  simp only[eS,SN] at h;subst h
  exact⟨[],by simp,by unfold aN;rfl⟩
 |r::rs,q::qs,Z,O,h=>by
  simp only[hW,SR] at Z
  simp only[eS] at h
  split at h
  ·rename_i x xs hx T
   simp only[SN] at h;subst h
   obtain⟨v,hv,r0⟩:=P9 hr Z.1 hx
   obtain⟨vs,e,b⟩:=JN hr Z.2 T
   refine⟨v::vs, ?_,by unfold aN;exact⟨v,vs,rfl,r0,b⟩⟩
   simp only[List.mapM_cons,Sem.run_bind,Sem.run_pure]
   rw[hv]
   simp only[Result.andThen_ok,e]
  ·cases h
 |[],_::_,Z,_,_=>by simp[hW] at Z
 |_::_,[],Z,_,_=>by simp[hW] at Z
theorem Oj (hr:cH c σ κ φ a w) (Z:hW P c.N fn.results.toList qs=true) (h:cE σ qs=some d):∃ v,(results fn a.tmps).run P w= .ok v w/\ba w c.M0 d v:=by
 unfold cE at h
 cases hl:eS σ qs with
 |none=>simp[hl] at h
 |some O=>
  obtain⟨vs,e,r0⟩:=JN hr Z hl
  have s4:∀ g:ResultVar->Sem Value,(fn.results.mapM g).run P w=((fn.results.toList.mapM g).run P w).andThen fun l w'=> .ok l.toArray w':=fun g=>by
   rw[Array.mapM_eq_mapM_toList]
   simp
  have F:(results fn a.tmps).run P w= .ok (if h:vs.toArray.size=1 then vs.toArray[0] else .tuple vs.toArray) w:=by
   unfold results
   simp only[Sem.run_bind]
   rw[s4]
   exact congrArg (fun r:Result (List Value)=>(r.andThen fun l w'=>Result.ok l.toArray w').andThen fun(a:Array Value) w'=>Sem.run P (pure (if h:a.size=1 then a[0] else Value.tuple a)) w') e
  refine⟨_,F, ?_⟩
  have h8:=r0.length
  rw[hl] at h
  match O,h,r0,h8 with
  |[x],h,r0,h8=>
   simp only[SN] at h;subst h
   unfold aN at r0
   obtain⟨u,us,rfl,h1,h2⟩:=r0
   unfold aN at h2;subst h2
   simpa using h1
  |[],h,r0,h8=>
   simp only[SN] at h;subst h
   simp at h8;subst h8
   unfold ba
   exact⟨[],by simp,r0⟩
  |x::y::l,h,r0,h8=>
   simp only[SN] at h;subst h
   unfold ba
   refine⟨vs, ?_,r0⟩
   simp only[S6] at h8
   rw[dif_neg oT]
end
def JO (args:List DV):Nat->SV:=fun i=>match args[i]? with|some x=> .d x|none=> .d .any
def fits (P:Program) (f:FuncId) (fn:Func) (x:SC) (qs:List RV) (n:Nat):Bool:=
 P.follows .mixedOrders&&mh P f&&(match fn.body with|some c=>cT P fn.ntmps x c|none=>false)&&hW P fn.ntmps fn.results.toList qs&&decide (n<=fn.ntmps)
theorem Fv {n:Nat} (o:fits P f fn x qs n=true):P.follows .mixedOrders=true/\mh P f=true/\(∃ c,fn.body=some c/\cT P fn.ntmps x c=true)/\hW P fn.ntmps fn.results.toList qs=true/\n<=fn.ntmps:=by
 unfold fits at o
 simp only[SR,SU] at o
 obtain⟨⟨⟨⟨D,h9⟩,U⟩,h0⟩,R⟩:=o
 refine⟨D,h9, ?_,h0,R⟩
 split at U
 ·rename_i c hc;exact⟨c,hc,U⟩
 ·cases U
def Ok (qs:List RV) (C:DV):AX->St->Prop
 | .normal,σ=>∃ X,cS σ X/\cE X qs=some C
 | .exit _,_=>False
 | .ret,σ=>∃ X,cS σ X/\cE X qs=some C
theorem ag {args:List DV} {C:DV} (hf:P.funcs[f]?=some fn) (o:fits P f fn x qs args.length=true) (h:AW P x (Ok qs C) ⟨JO args,fun _=> .dead⟩):aa P f args C:=by
 obtain⟨D,h9,⟨g,hb,U⟩,h0,R⟩:=Fv o
 refine⟨h9,fun w M vs hM r0 k=> ?_⟩
 have h8:=r0.length
 refine calls_of_wp hf hb ?_
 let c:Cx:=⟨w.heap.size,w,M,fun _=>False,fn.ntmps,[],k,fun _ _ h=>h,S0 _⟩
 have h7:own c (fun _=>[])=M:=by
  funext b;apply propext;unfold own
  constructor
  ·rintro(h|⟨_,h⟩)
   ·exact h
   ·simp at h
  ·exact .inl
 have hr:cH c ⟨JO args,fun _=> .dead⟩ (fun _=> .pointer none) (fun _=>[]) {tmps:=vs.toArray++Array.replicate (fn.ntmps - vs.toArray.size) undef,defers:=[]} w:=by
  refine⟨AK.refl _ _ _,S0 _,fun b hb=>⟨hM b hb,id⟩, ?_,rfl,fun _=>rfl,fun i hi=> ?_,fun i v hv=> ?_,fun _=>rfl,fun _ b hb=> ?_,fun _=>List.nodup_nil,fun _ _ b _ hb=> ?_⟩
  ·show _=fn.ntmps
   simp;omega
  ·rw[h7]
   simp only[JO]
   cases ha:args[i]? with
   |none=>simp[ah,ba]
   |some y=>
    obtain⟨v,hv,d⟩:=r0.get ha
    have h5:i<vs.length:=(SY.1 hv).1
    simp only[ah]
    rw[TD,Array.getElem?_append_left (by simpa using h5)]
    simp[hv,d]
  ·simp[c] at hv
  ·simp at hb
  ·simp at hb
 have B:∀ σ κ φ a w',cH c σ κ φ a w'->(∃ X,cS σ X/\cE X qs=some C)->a.defers=[]/\∃ v,(results fn a.tmps).run P w'= .ok v w'/\(∃ u,Ending.returned v= .returned u/\ba w' M C u/\Below w.heap.size w w'):=by
  rintro σ κ φ a w' r1 ⟨X,r2,hq⟩
  obtain⟨W,h6,r1⟩:=r2 _ _ _ _ _ r1
  obtain⟨v,hv,d⟩:=Oj r1 h0 hq
  exact⟨r1.defers,v,hv,v,rfl,d,r1.chg.below fun _ h=>h⟩
 exact h D c g _ U ⟨fun σ κ φ a w' r1 hq=>B σ κ φ a w' r1 hq,fun i σ κ φ a w' r1 hq=>hq.elim,fun σ κ φ a w' r1 hq=>B σ κ φ a w' r1 hq⟩ _ _ _ _ hr
