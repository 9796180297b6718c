/-
  My text.
-/
import Derived.Test.YteaolfcegaidpaaGreatDoorSXEngT
import Derived.LoopN
namespace Go.Proofs.YteaolfcegaidpaaGreatDoor
set_option linter.unusedSimpArgs false
set_option linter.unusedVariables false
open Go.RowKit
inductive RV where
 |t (n:Nat)
 |cell (n sz:Nat)
def mt (P:Program) (N:Nat):ResultVar->RV->Bool
 | .tmp t,.t n=>t==n&&decide (n<N)
 | .cell a t,.cell n sz=>a==n&&decide (n<N)&&(match P.underlying t with|some d=>iD d|none=>false)&&(P.info? t).isSome&&P.cellsOf t==sz
 |_,_=>false
def gk (P:Program) (N:Nat):List ResultVar->List RV->Bool
 |[],[]=>true
 |r::rs,q::qs=>mt P N r q&&gk P N rs qs
 |_,_=>false
inductive SC where
 |skip
 |reg (ops:List SO)
 |regD (ops:List SO)
 |regE (ops:List SO)
 |regP (π:List Nat) (ops:List SO)
 |regV (π:List Nat) (pre:List SO) (x1 x2:SO) (post:List SO)
 |seq (x y:SC)
 |cond (c:SX) (x y:SC)
 |block (id:Nat) (x:SC)
 |loop (x:SC)
 |exit (id:Nat)
 |ret
 |rangeM (d0:Nat) (m:SX) (d2 dn df de b1 b2:Nat) (sos:List SO) (x:SC)
 |inl (k:Nat) (sos:List SO) (N:Nat) (x:SC) (qs:List RV)
 |inlC (f nc k:Nat) (sos:List SO) (N:Nat) (x:SC) (qs:List RV)
 |any
inductive AX where
 |normal
 |exit (id:Nat)
 |ret
 deriving DecidableEq
def J9 (P:Program) (N:Nat) (π:List Nat) (ops:Array Oper) (i:Nat) (s1 s2:List SO):Bool:=
 Kt i ops π s1 s2&&bx P N (Cv ops (i+1) i) (Cv ops (i+1) i).toList s1&&Lg P N (Cv ops (i+1) i) s1 (s1.map cq) 0 (Cv ops (i+1) i).toList s1&&
 HX π (Cv ops i (i+1))&&bx P N (yE π (Cv ops i (i+1))) (yE π (Cv ops i (i+1))).toList s2&&Lg P N (yE π (Cv ops i (i+1))) s2 (s2.map cq) 0 (yE π (Cv ops i (i+1))).toList s2
def Cc (P:Program) (d0:Nat):Op->Bool
 | .range t (.tmp x)=>x==d0&&(match P.underlying t with|some (.map _ _)=>true|_=>false)
 |_=>false
def Ev (d2:Nat):Op->Bool
 | .next (.tmp x) false=>x==d2
 |_=>false
def Cd (d2:Nat):Op->Bool
 | .entry (.tmp x)=>x==d2
 |_=>false
def Ew (dn:Nat):Op->Bool
 | .extract (.tmp x) 0=>x==dn
 |_=>false
def Hl (P:Program) (N:Nat) (d0:Nat) (m:SX) (d2 dn df de:Nat) (o1 o2 o3:Array Oper) (sos:List SO):Bool:=
 match o1.toList,o2.toList,o3.toList with
 |[p,q],[n1,n2],e::rest=>bx P N o1 [p] [.r d0 (.mv m)]&&q.guard.isNone&&q.dst==some d2&&Cc P d0 q.op&&n1.guard.isNone&&n1.dst==some dn&&Ev d2 n1.op&&n2.guard.isNone&&n2.dst==some df&&Ew dn n2.op&&
   e.guard.isNone&&e.dst==some de&&Cd d2 e.op&&decide (d0<N)&&decide (d2<N)&&decide (dn<N)&&decide (df<N)&&decide (de<N)&&decide (d2≠dn)&&decide (d2≠df)&&decide (dn≠df)&&bx P N o3 rest sos
 |_,_,_=>false
def cR (P:Program) (N:Nat):SC->Code->Bool
 | .skip,.skip=>true
 | .reg sos,.region _ ops false=>bx P N ops ops.toList sos
 | .regD sos,.region _ ops true=>bx P N ops ops.toList sos&&(match Dd sos with|some ds=>decide ds.Nodup&&wC ops ds 0 ops.toList sos|none=>false)
 | .regE sos,.region _ ops true=>bx P N ops ops.toList sos&&yO true P N ops sos (sos.map cq) 0 ops.toList sos
 | .regP π sos,.region _ ops true=>HX π ops&&bx P N (yE π ops) (yE π ops).toList sos&&yO true P N (yE π ops) sos (sos.map cq) 0 (yE π ops).toList sos
 | .regV π pre x1 x2 post,.region _ ops true=>J9 P N π ops pre.length (pre++x1::x2::post) (pre++x2::x1::post)
 | .seq x y,.seq a b=>cR P N x a&&cR P N y b
 | .cond t x y,.cond o a b=>au N o t&&cR P N x a&&cR P N y b
 | .block i x,.block j a=>i==j&&cR P N x a
 | .loop x,.loop a=>cR P N x a
 | .exit i,.exit j=>i==j
 | .ret,.ret=>true
 | .rangeM d0 m d2 dn df de b1 b2 sos x,.seq (.region _ o1 false) (.block c1 (.loop (.seq (.region _ o2 false) (.seq (.cond (.tmp t) .skip (.exit c2)) (.block c3 (.seq (.region _ o3 false) y))))))=>
   Hl P N d0 m d2 dn df de o1 o2 o3 sos&&c1==b1&&c2==b1&&c3==b2&&t==df&&decide (b1≠b2)&&cR P N x y
 | .inl k sos N' x qs,.region _ ops false=>bx P N ops ops.toList sos&&(match sos[k]? with
   |some (.p _ (.f f) args)=>nS P f&&(match P.funcs[f]? with
    |some fn=>decide (fn.ntmps=N')&&decide (args.length<=N')&&gk P N' fn.results.toList qs&&(match fn.body with|some code=>cR P N' x code|none=>false)
    |none=>false)
   |_=>false)
 | .inlC f nc k sos N' x qs,.region _ ops false=>bx P N ops ops.toList sos&&(match sos[k]? with
   |some (.p _ (.t _) args)=>nS P f&&(match P.funcs[f]? with
    |some fn=>decide (fn.ntmps=N')&&decide (args.length+nc<=N')&&gk P N' fn.results.toList qs&&(match fn.body with|some code=>cR P N' x code|none=>false)
    |none=>false)
   |_=>false)
 | .any,_=>true
 |_,_=>false
def Hm (c:Cx) (Q:AX->St->Prop) (R:Exit->Act->World->Prop):Prop:=
 (∀ σ κ φ a w,ce c σ κ φ a w->Q .normal σ->R .normal a w)/\
 (∀ i σ κ φ a w,ce c σ κ φ a w->Q (.exit i) σ->R (.exit i) a w)/\
 (∀ σ κ φ a w,ce c σ κ φ a w->Q .ret σ->R .ret a w)
def AW (P:Program) (x:SC) (Q:AX->St->Prop) (σ:St):Prop:=
 P.follows .mixedOrders=true->∀ (c:Cx) (code:Code) (R:Exit->Act->World->Prop),cR P c.N x code=true->Hm c Q R->∀ κ φ a w,ce c σ κ φ a w->code.wp P R a w
def Hn (P:Program) (y:SC) (Q:AX->St->Prop):AX->St->Prop
 | .normal,σ=>AW P y Q σ
 | .exit i,σ=>Q (.exit i) σ
 | .ret,σ=>Q .ret σ
def kw (id:Nat) (Q:AX->St->Prop):AX->St->Prop
 | .normal,σ=>Q .normal σ
 | .exit i,σ=>if i=id then Q .normal σ else Q (.exit i) σ
 | .ret,σ=>Q .ret σ
def J_ (I:Nat->St->Prop) (m:Nat) (Q:AX->St->Prop):AX->St->Prop
 | .normal,σ=>∃ m' σ',m'<m/\f0 σ σ'/\I m' σ'
 | .exit i,σ=>Q (.exit i) σ
 | .ret,σ=>Q .ret σ
section
variable {P:Program} {x y:SC} {Q Q':AX->St->Prop} {σ σ':St}
theorem yr (h:f0 σ σ') (hw:AW P x Q σ'):AW P x Q σ:=fun hmix c code R hm hp κ φ a w hr=>by
 obtain⟨κ',φ',hr'⟩:=h c κ φ a w hr
 exact hw hmix c code R hm hp κ' φ' a w hr'
theorem zJ (h:∀ e σ,Q e σ->Q' e σ) (hw:AW P x Q σ):AW P x Q' σ:=fun hmix c code R hm hp κ φ a w hr=>
 hw hmix c code R hm ⟨fun σ κ φ a w hr hq=>hp.1 σ κ φ a w hr (h _ _ hq),fun i σ κ φ a w hr hq=>hp.2.1 i σ κ φ a w hr (h _ _ hq),fun σ κ φ a w hr hq=>hp.2.2 σ κ φ a w hr (h _ _ hq)⟩ κ φ a w hr
theorem bl (hw:Q .normal σ):AW P .skip Q σ:=fun _ c code R hm hp κ φ a w hr=>by
 cases code<;>simp[cR] at hm
 exact wp_skip (hp.1 _ _ _ _ _ hr hw)
theorem bE (hw:Q .ret σ):AW P .ret Q σ:=fun _ c code R hm hp κ φ a w hr=>by
 cases code<;>simp[cR] at hm
 exact wp_ret (hp.2.2 _ _ _ _ _ hr hw)
theorem cg {i:Nat} (hw:Q (.exit i) σ):AW P (.exit i) Q σ:=fun _ c code R hm hp κ φ a w hr=>by
 cases code<;>simp only[cR,My,Mc] at hm
 subst hm
 exact wp_exit (hp.2.1 _ _ _ _ _ _ hr hw)
theorem bu {ops:List SO} (hw:ba P (Q .normal) ops σ):AW P (.reg ops) Q σ:=fun _ c code R hm hp κ φ a w hr=>by
 obtain⟨id,ops',rfl,hm⟩:∃ id ops',code= .region id ops' false/\bx P c.N ops' ops'.toList ops=true:=by
  cases code with
  |region id ops' draw=>cases draw with
   |false=>exact⟨id,ops',rfl,hm⟩
   |true=>simp[cR] at hm
  |_=>simp[cR] at hm
 exact Cn (K:=Q .normal) (fun σ' κ' φ' a' w' hr' hk=>hp.1 _ _ _ _ _ hr' hk) hm hr hw
theorem ou {ops:List SO} (hw:ba P (Q .normal) ops σ):AW P (.regD ops) Q σ:=fun hmix c code R hm hp κ φ a w hr=>by
 obtain⟨id,ops',rfl,h1,h2⟩:∃ id ops',code= .region id ops' true/\bx P c.N ops' ops'.toList ops=true/\(match Dd ops with|some ds=>decide ds.Nodup&&wC ops' ds 0 ops'.toList ops|none=>false)=true:=by
  cases code with
  |region id ops' draw=>cases draw with
   |true=>simp only[cR,L9] at hm;exact⟨id,ops',rfl,hm.1,hm.2⟩
   |false=>simp[cR] at hm
  |_=>simp[cR] at hm
 split at h2
 ·rename_i ds hds
  simp only[L9,Ma] at h2
  exact De (K:=Q .normal) hmix (fun σ' κ' φ' a' w' hr' hk=>hp.1 _ _ _ _ _ hr' hk) h1 hds h2.1 h2.2 hr hw
 ·cases h2
theorem bF (hw:AW P x (Hn P y Q) σ):AW P (.seq x y) Q σ:=fun hmix c code R hm hp κ φ a w hr=>by
 cases code<;>simp only[cR,My,L9] at hm
 refine wp_seq (hw hmix c _ _ hm.1 ⟨?_, ?_, ?_⟩ κ φ a w hr)
 ·intro σ' κ' φ' a' w' hr' hq;exact hq hmix c _ _ hm.2 hp κ' φ' a' w' hr'
 ·intro i σ' κ' φ' a' w' hr' hq;exact hp.2.1 _ _ _ _ _ _ hr' hq
 ·intro σ' κ' φ' a' w' hr' hq;exact hp.2.2 _ _ _ _ _ hr' hq
theorem Ka {t:SX} {b:Bool} (hc:ev σ.s t= .d (.bool b)) (hx:b=true->AW P x Q σ) (hy:b=false->AW P y Q σ):AW P (.cond t x y) Q σ:=fun hmix c code R hm hp κ φ a w hr=>by
 cases code<;>simp only[cR,My,L9] at hm
 have ht:=ah hr hm.1.1
 rw[hc] at ht
 simp only[af,aK] at ht
 exact wp_cond_split ht (fun hb=>hx hb hmix c _ _ hm.1.2 hp κ φ a w hr) (fun hb=>hy hb hmix c _ _ hm.2 hp κ φ a w hr)
theorem bo {i:Nat} (hw:AW P x (kw i Q) σ):AW P (.block i x) Q σ:=fun hmix c code R hm hp κ φ a w hr=>by
 cases code<;>simp only[cR,My,L9,Mc] at hm
 obtain⟨rfl,hm⟩:=hm
 refine wp_block (hw hmix c _ _ hm ⟨?_, ?_, ?_⟩ κ φ a w hr)
 ·intro σ' κ' φ' a' w' hr' hq;exact hp.1 _ _ _ _ _ hr' hq
 ·intro j σ' κ' φ' a' w' hr' hq
  simp only[Exit.inBlock]
  by_cases hj:j=i
  ·simp only[hj,kw,Nr] at hq⊢;exact hp.1 _ _ _ _ _ hr' hq
  ·simp only[hj,kw,MZ] at hq⊢;exact hp.2.1 _ _ _ _ _ _ hr' hq
 ·intro σ' κ' φ' a' w' hr' hq;exact hp.2.2 _ _ _ _ _ hr' hq
theorem Kb (I:Nat->St->Prop) (m:Nat) (h0:∃ σ',f0 σ σ'/\I m σ') (hround:∀ m σ,I m σ->AW P x (J_ I m Q) σ):AW P (.loop x) Q σ:=fun hmix c code R hm hp κ φ a w hr=>by
 cases code<;>simp only[cR,My] at hm
 rename_i body
 obtain⟨σ1,himp,hI⟩:=h0
 obtain⟨κ1,φ1,hr⟩:=himp _ _ _ _ _ hr
 refine wp_loop_rounds (m+1) ?_
 have key:∀ n m σ κ φ a w,m<n->I m σ->ce c σ κ φ a w->Code.rounds P body R n a w:=by
  intro n
  induction n with
  |zero=>intro m σ κ φ a w h;omega
  |succ n ih=>
   intro m σ κ φ a w hlt hI hr
   rw[rounds_succ]
   refine hround m σ hI hmix c _ _ hm ⟨?_, ?_, ?_⟩ κ φ a w hr
   ·rintro σ' κ' φ' a' w' hr' ⟨m',σ2,h1,h2,h3⟩
    obtain⟨κ2,φ2,hr2⟩:=h2 _ _ _ _ _ hr'
    exact ih m' σ2 κ2 φ2 a' w' oM h3 hr2
   ·intro i σ' κ' φ' a' w' hr' hq;exact hp.2.1 _ _ _ _ _ _ hr' hq
   ·intro σ' κ' φ' a' w' hr' hq;exact hp.2.2 _ _ _ _ _ hr' hq
 exact key (m+1) m σ1 κ1 φ1 a w oM hI hr
end
section
variable {σ:St}
theorem nm {slot id e sz:Nat} (hs:σ.s slot= .nils):f0 σ ⟨ay (eF id .any σ.s) slot (.vec id),ay (jz id .any σ.h) id (.vec e sz [])⟩:=fun c κ φ a w hr=>⟨_,_,hr.vecnil hs⟩
theorem Ex {id e sz:Nat} {rows:List (List SV)} {ds:List (List DV)} (hv:σ.h id= .vec e sz rows) (hf:SV.frzR rows=some ds):f0 σ ⟨eF id (.slice ds) σ.s,ay (jz id (.slice ds) σ.h) id .dead⟩:=fun c κ φ a w hr=>⟨_,_,hr.freeze hv hf⟩
theorem Ho {id id':Nat} {p:Pt} {σ':St} (hne:id≠id') (h:zM σ id p id'=some σ'):f0 σ σ':=fun c κ φ a w hr=>hr.openAt hne h
theorem Gc {id id':Nat} {p:Pt} {m:b8} {d:DV} {ch:Ch} {mk:Nat->SV} (hne:id≠id') (ho:cz m d=some (ch,mk)) (hsh:ec m d) (hg:rM (σ.h id) p=some (mk id')) (hh:σ.h id'=ch):f0 σ (wE σ id p id' m d):=fun c κ φ a w hr=>hr.closeAt hne ho hsh hg hh
theorem xB {P:Program} {Q:AX->St->Prop} {ops:List SO} (hw:ba P (Q .normal) ops σ):AW P (.regE ops) Q σ:=fun hmix c code R hm hp κ φ a w hr=>by
 obtain⟨id,ops',rfl,h1,h2⟩:∃ id ops',code= .region id ops' true/\bx P c.N ops' ops'.toList ops=true/\yO true P c.N ops' ops (ops.map cq) 0 ops'.toList ops=true:=by
  cases code with
  |region id ops' draw=>cases draw with
   |true=>simp only[cR,L9] at hm;exact⟨id,ops',rfl,hm.1,hm.2⟩
   |false=>simp[cR] at hm
  |_=>simp[cR] at hm
 refine Cu (K:=Q .normal) hmix (fun σ' κ' φ' a' w' hr' hk=>hp.1 _ _ _ _ _ hr' hk) h1 h2 (fun U=>zX (σ:=σ) (σ':=⟨ot (qt σ.s) U σ.s,σ.h⟩) (fun i=>HT σ.s U i) (fun i=> .inl rfl) c κ φ a w hr) hw
def lk:List (Nat×SV)->Nat->SV
 |[],_=> .d .any
 |(i,v)::l,j=>if j=i then v else lk l j
def lh:List (Nat×Ch)->Nat->Ch
 |[],_=> .dead
 |(i,v)::l,j=>if j=i then v else lh l j
abbrev st (l:List (Nat×SV)) (h:List (Nat×Ch)):St:=⟨lk l,lh h⟩
end
def RV.get (σ:St):RV->Option DV
 | .t n=>SV.lend σ.h (σ.s n)
 | .cell n sz=>match σ.s n with
  | .d (.ptr cs)=>if sz<=cs.length then some (.agg (cs.take sz)) else none
  | .ref id off=>match σ.h id with
   | .box cs=>if off=0/\sz=cs.length then(match SV.lendCs σ.h cs with|some l=>some (.agg l)|none=>none) else none
   |_=>none
  |_=>none
def cn (σ:St):List RV->Option (List DV)
 |[]=>some []
 |r::rs=>match r.get σ,cn σ rs with|some x,some xs=>some (x::xs)|_,_=>none
def bk (σ:St) (rs:List RV):Option DV:=
 match cn σ rs with
 |some [x]=>some x
 |some l=>some (.tup l)
 |none=>none
section
variable {P:Program} {c:Cx} {σ:St} {κ:Nat->Value} {φ:Nat->List Nat} {a:Act} {w:World}
theorem Kc (hr:ce c σ κ φ a w) {r:ResultVar} {q:RV} (hm:mt P c.N r q=true) {d:DV} (hg:q.get σ=some d):
  ∃ v,(match r with| .tmp t=>pure (a.tmps.getD t undef)| .cell a' t=>do loadVar t (<-asAddr (a.tmps.getD a' undef)):Sem Value).run P w= .ok v w/\aK w c.M0 d v:=by
 cases r with
 |tmp t=>
  cases q with
  |t n=>
   simp only[mt,L9,Mc,Ma] at hm
   obtain⟨rfl,hn⟩:=hm
   exact⟨_,rfl,Da hr _ _ _ (hr.slots t hn) hg⟩
  |cell _ _=>simp[mt] at hm
 |cell a' t=>
  cases q with
  |t n=>simp[mt] at hm
  |cell n sz=>
   simp only[mt,L9,Mc,Ma] at hm
   obtain⟨⟨⟨⟨rfl,hn⟩,h2⟩,h3⟩,rfl⟩:=hm
   split at h2
   ·rename_i td htd
    have hs:=hr.slots a' hn
    simp only[RV.get] at hg
    split at hg
    ·rename_i cs heq
     rw[heq] at hs
     simp only[af,aK] at hs
     obtain⟨b,o,hv,hm',hlt,hat⟩:=hs
     split at hg
     ·rename_i hle
      simp only[L7] at hg;subst hg
      obtain⟨vs,hl,hone,hcell⟩:=hat.values
      have hlen:=hl.length
      have:=mn (P:=P) (w:=w) (b:=b) (o:=o) (vs:=vs.take (P.cellsOf t)) htd h2 h3 oT (fun j v hj=>hcell j v (by
       rw[Nc] at hj;split at hj
       ·exact hj
       ·cases hj))
      refine⟨.agg (vs.take (P.cellsOf t)).toArray,by simp[hv,asAddr,this], ?_⟩
      unfold aK
      exact⟨_,rfl,fun z hz=>hone z (MC hz),(hl.take _).ext (kN.shrink fun b hb=> .inl hb)⟩
     ·cases hg
    ·rename_i id off heq
     rw[heq] at hs
     simp only[af] at hs
     obtain⟨b,hkb,hv⟩:=hs
     split at hg
     ·rename_i cs hbox
      split at hg
      ·rename_i hoff
       obtain⟨rfl,hsz⟩:=hoff
       split at hg
       ·rename_i l hl'
        simp only[L7] at hg;subst hg
        have hch:=hr.chunks id
        rw[hbox] at hch
        obtain⟨b',T,vs,G,hk',hheap,h1',hl,hφ⟩:=hch
        rw[hkb] at hk';simp at hk';subst hk'
        have hlen:=hl.length
        have:=mn (P:=P) (w:=w) (b:=b) (o:=0) (vs:=vs) htd h2 h3 oM (fun j v hj=>by rw[M7,cell_of_row w b j _ T _ hheap];simpa using hj)
        refine⟨.agg vs.toArray,by simp[hv,asAddr,this], ?_⟩
        unfold aK
        exact⟨_,rfl,h1',vE hr (fun b' hb'=>uH hr (id:=id) (by rw[hφ];simp[hb'])) hl hl'⟩
       ·cases hg
      ·cases hg
     ·cases hg
    ·cases hg
   ·cases h2
theorem Ff (hr:ce c σ κ φ a w):∀ {rs:List ResultVar} {qs:List RV},gk P c.N rs qs=true->∀ {ds:List DV},cn σ qs=some ds->
  ∃ vs:List Value,(rs.mapM fun r=>(match r with| .tmp t=>pure (a.tmps.getD t undef)| .cell a' t=>do loadVar t (<-asAddr (a.tmps.getD a' undef)):Sem Value)).run P w= .ok vs w/\aB w c.M0 ds vs
 |[],[],_,ds,h=>by
  simp only[cn,L7] at h;subst h
  exact⟨[],by simp,by unfold aB;rfl⟩
 |r::rs,q::qs,hm,ds,h=>by
  simp only[gk,L9] at hm
  simp only[cn] at h
  split at h
  ·rename_i x xs hx hxs
   simp only[L7] at h;subst h
   obtain⟨v,hv,hrep⟩:=Kc hr hm.1 hx
   obtain⟨vs,hvs,hreps⟩:=Ff hr hm.2 hxs
   refine⟨v::vs, ?_,by unfold aB;exact⟨v,vs,rfl,hrep,hreps⟩⟩
   simp only[List.mapM_cons,Sem.run_bind,Sem.run_pure]
   rw[hv]
   simp only[Result.andThen_ok,hvs]
  ·cases h
 |[],_::_,hm,_,_=>by simp[gk] at hm
 |_::_,[],hm,_,_=>by simp[gk] at hm
theorem IM (hr:ce c σ κ φ a w) {fn:Func} {qs:List RV} (hm:gk P c.N fn.results.toList qs=true) {d:DV} (h:bk σ qs=some d):∃ v,(results fn a.tmps).run P w= .ok v w/\aK w c.M0 d v:=by
 unfold bk at h
 cases hl:cn σ qs with
 |none=>simp[hl] at h
 |some ds=>
  obtain⟨vs,hvs,hrep⟩:=Ff hr hm hl
  have hmap:∀ g:ResultVar->Sem Value,(fn.results.mapM g).run P w=((fn.results.toList.mapM g).run P w).andThen fun l w'=> .ok l.toArray w':=fun g=>by
   rw[Array.mapM_eq_mapM_toList]
   simp
  have hrun:(results fn a.tmps).run P w= .ok (if h:vs.toArray.size=1 then vs.toArray[0] else .tuple vs.toArray) w:=by
   unfold results
   simp only[Sem.run_bind]
   rw[hmap]
   exact congrArg (fun r:Result (List Value)=>(r.andThen fun l w'=>Result.ok l.toArray w').andThen fun(a:Array Value) w'=>Sem.run P (pure (if h:a.size=1 then a[0] else Value.tuple a)) w') hvs
  refine⟨_,hrun, ?_⟩
  have hlen:=hrep.length
  rw[hl] at h
  match ds,h,hrep,hlen with
  |[x],h,hrep,hlen=>
   simp only[L7] at h;subst h
   unfold aB at hrep
   obtain⟨u,us,rfl,h1,h2⟩:=hrep
   unfold aB at h2;subst h2
   simpa using h1
  |[],h,hrep,hlen=>
   simp only[L7] at h;subst h
   simp at hlen;subst hlen
   unfold aK
   exact⟨[],by simp,hrep⟩
  |x::y::l,h,hrep,hlen=>
   simp only[L7] at h;subst h
   unfold aK
   refine⟨vs, ?_,hrep⟩
   simp only[Mv] at hlen
   rw[dif_neg oT]
end
def Fg (args:List DV):Nat->SV:=fun i=>match args[i]? with|some x=> .d x|none=> .d .any
def fits (P:Program) (f:FuncId) (fn:Func) (x:SC) (qs:List RV) (n:Nat):Bool:=
 P.follows .mixedOrders&&nS P f&&(match fn.body with|some c=>cR P fn.ntmps x c|none=>false)&&gk P fn.ntmps fn.results.toList qs&&decide (n<=fn.ntmps)
theorem Bn {P:Program} {f:FuncId} {fn:Func} {x:SC} {qs:List RV} {n:Nat} (hfit:fits P f fn x qs n=true):P.follows .mixedOrders=true/\nS P f=true/\(∃ c,fn.body=some c/\cR P fn.ntmps x c=true)/\gk P fn.ntmps fn.results.toList qs=true/\n<=fn.ntmps:=by
 unfold fits at hfit
 simp only[L9,Ma] at hfit
 obtain⟨⟨⟨⟨hmix,hcal⟩,hm1⟩,hm2⟩,hm3⟩:=hfit
 refine⟨hmix,hcal, ?_,hm2,hm3⟩
 split at hm1
 ·rename_i c hc;exact⟨c,hc,hm1⟩
 ·cases hm1
def IO (qs:List RV) (res:DV):AX->St->Prop
 | .normal,σ=>∃ σ',f0 σ σ'/\bk σ' qs=some res
 | .exit _,_=>False
 | .ret,σ=>∃ σ',f0 σ σ'/\bk σ' qs=some res
theorem ag {P:Program} {f:FuncId} {fn:Func} {x:SC} {qs:List RV} {args:List DV} {res:DV} (hf:P.funcs[f]?=some fn) (hfit:fits P f fn x qs args.length=true)
  (h:AW P x (IO qs res) ⟨Fg args,fun _=> .dead⟩):aa P f args res:=by
 obtain⟨hmix,hcal,⟨code,hb,hm1⟩,hm2,hm3⟩:=Bn hfit
 refine⟨hcal,fun w M vs hM hrep hgood=> ?_⟩
 have hlen:=hrep.length
 refine calls_of_wp hf hb ?_
 let c:Cx:=⟨w.heap.size,w,M,fun _=>False,fn.ntmps,[],hgood,fun _ _ h=>h,Me _⟩
 have hown:own c (fun _=>[])=M:=by
  funext b;apply propext;unfold own
  constructor
  ·rintro(h|⟨_,h⟩)
   ·exact h
   ·simp at h
  ·exact .inl
 have hr:ce c ⟨Fg args,fun _=> .dead⟩ (fun _=> .pointer none) (fun _=>[]) {tmps:=vs.toArray++Array.replicate (fn.ntmps - vs.toArray.size) undef,defers:=[]} w:=by
  refine⟨xl.refl _ _ _,Me _,fun b hb=>⟨hM b hb,id⟩, ?_,rfl,fun _=>rfl,fun i hi=> ?_,fun i v hv=> ?_,fun _=>rfl,fun _ b hb=> ?_,fun _=>List.nodup_nil,fun _ _ b _ hb=> ?_⟩
  ·show _=fn.ntmps
   simp;omega
  ·rw[hown]
   simp only[Fg]
   cases ha:args[i]? with
   |none=>simp[af,aK]
   |some y=>
    obtain⟨v,hv,hrv⟩:=hrep.get ha
    have hi':i<vs.length:=(Md.1 hv).1
    simp only[af]
    rw[Nk,Array.getElem?_append_left (by simpa using hi')]
    simp[hv,hrv]
  ·simp[c] at hv
  ·simp at hb
  ·simp at hb
 have fin:∀ σ κ φ a w',ce c σ κ φ a w'->(∃ σ',f0 σ σ'/\bk σ' qs=some res)->a.defers=[]/\∃ v,(results fn a.tmps).run P w'= .ok v w'/\(∃ u,Ending.returned v= .returned u/\aK w' M res u/\Below w.heap.size w w'):=by
  rintro σ κ φ a w' hr' ⟨σ',himp,hq⟩
  obtain⟨κ',φ',hr'⟩:=himp _ _ _ _ _ hr'
  obtain⟨v,hv,hrv⟩:=IM hr' hm2 hq
  exact⟨hr'.defers,v,hv,v,rfl,hrv,hr'.chg.below fun _ h=>h⟩
 exact h hmix c code _ hm1 ⟨fun σ κ φ a w' hr' hq=>fin σ κ φ a w' hr' hq,fun i σ κ φ a w' hr' hq=>hq.elim,fun σ κ φ a w' hr' hq=>fin σ κ φ a w' hr' hq⟩ _ _ _ _ hr
