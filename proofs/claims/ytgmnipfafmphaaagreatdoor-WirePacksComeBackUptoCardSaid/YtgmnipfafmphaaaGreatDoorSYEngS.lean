/-
  My text.
-/
import Derived.Test.YtgmnipfafmphaaaGreatDoorSYEngL
namespace Go.Proofs.YtgmnipfafmphaaaGreatDoor
set_option linter.unusedSimpArgs false
set_option linter.unusedVariables false
open Go.RowKit
inductive lb (h:Nat->Ch):List SV->List SV->List Nat->Prop
 |nil:lb h [] [] []
 |any {x:SV} {xs rs:List SV} {ids:List Nat} (hl:lb h xs rs ids):lb h (x::xs) (.d .any::rs) ids
 |data {x:SV} {d:DV} {xs rs:List SV} {ids:List Nat} (hx:x.toDV=some d) (hl:lb h xs rs ids):lb h (x::xs) (.d d::rs) ids
 |nils {e:Nat} {ms:List bj} {xs rs:List SV} {ids:List Nat} (hl:lb h xs rs ids):lb h (.nils::xs) (.own (.sl e ms) (.slice [])::rs) ids
 |own {id:Nat} {m:bj} {d:DV} {ch:Ch} {mk:Nat->SV} {xs rs:List SV} {ids:List Nat} (ho:cf m d=some (ch,mk)) (hs:eZ m d) (hh:h id=ch) (hn:id∉ids) (hl:lb h xs rs ids):lb h (mk id::xs) (.own m d::rs) (id::ids)
 |agg {cs rs1 xs rs:List SV} {ids1 ids:List Nat} (hc:lb h cs rs1 ids1) (hn:∀ i∈ids1,i∉ids) (hl:lb h xs rs ids):lb h (.agg cs::xs) (.agg rs1::rs) (ids1++ids)
variable {f:FuncId} {fn:Func} {outs:List SV} {res:SV}
section
variable {P:Program} {c:Cx} {σ:St} {κ:Nat->Value} {φ:Nat->List Nat} {a:Act} {w:World}
theorem NU (D:cW c σ κ φ a w) {xs rs:List SV} {ids:List Nat} (h:lb σ.h xs rs ids):∀ {vs:List Value},an w (own c φ) κ xs vs->
  ∃ F,(∀ M:Nat->Prop,(∀ b,M b->own c φ b)->ap w M κ0 rs vs F)/\(∀ b∈F,∃ id∈ids,b∈φ id)/\F.Nodup:=by
 induction h with
 |nil=>intro vs hx;simp only[an] at hx;exact⟨[],fun M _=>by simp[ap,hx],by simp,by simp⟩
 |any _ ih=>
  intro vs T
  simp only[an] at T
  obtain⟨u,R,rfl,h1,h2⟩:=T
  obtain⟨F,k1,k2,k3⟩:=ih h2
  refine⟨F,fun M hM=> ?_,k2,k3⟩
  simp only[ap]
  exact⟨u,R,[],F,rfl,rfl,by unfold aO ai aW;exact⟨rfl,trivial⟩,k1 M hM⟩
 |data hx _ ih=>
  intro vs T
  simp only[an] at T
  obtain⟨u,R,rfl,h1,h2⟩:=T
  obtain⟨F,k1,k2,k3⟩:=ih h2
  refine⟨F,fun M hM=> ?_,k2,k3⟩
  simp only[ap]
  exact⟨u,R,[],F,rfl,rfl,by unfold aO ai;exact⟨rfl,(ai.toDV _ _ _ h1 hx).ext (jE.shrink hM)⟩,k1 M hM⟩
 |nils _ ih=>
  intro vs T
  simp only[an] at T
  obtain⟨u,R,rfl,h1,h2⟩:=T
  obtain⟨F,k1,k2,k3⟩:=ih h2
  refine⟨F,fun M hM=> ?_,k2,k3⟩
  simp only[ap]
  refine⟨u,R,[],F,rfl,rfl, ?_,k1 M hM⟩
  simp only[ai] at h1
  subst h1
  simp only[aO,eO]
  exact⟨[],[],[],rfl,World.ownsRow_nil w 0 _ _,by simp,by simp,by simp[fE],by simp[fz,sc]⟩
 | @own id m d ch mk _ _ ids ho hs hh hn _ ih=>
  intro vs T
  simp only[an] at T
  obtain⟨u,R,rfl,h1,h2⟩:=T
  obtain⟨F,k1,k2,k3⟩:=ih h2
  have r0:=D.chunks id
  rw[hh] at r0
  obtain⟨hk,_⟩:=Ed (φ:=φ) ho (aO.of_S _ _ h1) r0
  have hO:=(og hs ho hk).1 r0
  refine⟨φ id++F,fun M hM=> ?_,fun b hb=> ?_,TD.2 ⟨D.nod id,k3,fun x hx y hy e=> ?_⟩⟩
  ·simp only[ap]
   exact⟨u,R,φ id,F,rfl,rfl,by simp only[aO];exact eO.ext (jE.shrink hM) _ _ _ _ (fun _ _=>rfl) hO,k1 M hM⟩
  ·rcases Te.1 hb with hb|hb
   ·exact⟨id,by simp,hb⟩
   ·obtain⟨j,hj,r⟩:=k2 b hb;exact⟨j,by simp[hj],r⟩
  ·subst e
   obtain⟨j,hj,f⟩:=k2 x hy
   exact D.sep id j x (fun e=>hn (e▸hj)) hx f
 | @agg cs rs1 xs rs ids1 ids _ hn _ g ih=>
  intro vs T
  simp only[an] at T
  obtain⟨u,R,rfl,h1,h2⟩:=T
  simp only[ai] at h1
  obtain⟨A,rfl,E,h4⟩:=h1
  obtain⟨W,g1,g2,g3⟩:=g h4
  obtain⟨F,k1,k2,k3⟩:=ih h2
  refine⟨W++F,fun M hM=> ?_,fun b hb=> ?_,TD.2 ⟨g3,k3,fun x hx y hy e=> ?_⟩⟩
  ·simp only[ap]
   exact⟨_,R,W,F,rfl,rfl,by simp only[aO];exact⟨A,rfl,E,g1 M hM⟩,k1 M hM⟩
  ·rcases Te.1 hb with hb|hb
   ·obtain⟨j,hj,r⟩:=g2 b hb;exact⟨j,by simp[hj],r⟩
   ·obtain⟨j,hj,r⟩:=k2 b hb;exact⟨j,by simp[hj],r⟩
  ·subst e
   obtain⟨i,hi,v5⟩:=g2 x hx
   obtain⟨j,hj,f⟩:=k2 x hy
   exact D.sep i j x (fun e=>hn i hi (e▸hj)) v5 f
def RV.sv (σ:St):RV->Option SV
 | .t n=>some (σ.s n)
 | .cell n sz=>match σ.s n with
  | .d (.ptr cs)=>if sz<=cs.length then some (.d (.agg (cs.take sz))) else none
  | .ref id off=>match σ.h id with
   | .box cs=>if off=0/\sz=cs.length/\SV.noOwns cs=true then some (.agg cs) else none
   |_=>none
  |_=>none
def JF (σ:St):List RV->Option (List SV)
 |[]=>some []
 |r::rs=>match r.sv σ,JF σ rs with|some x,some xs=>some (x::xs)|_,_=>none
theorem Re (D:cW c σ κ φ a w) {r:ResultVar} {q:RV} (Z:lC P c.N r q=true) {x:SV} (hg:q.sv σ=some x):
  ∃ v,(match r with| .tmp t=>pure (a.tmps.getD t undef)| .cell a' t=>do loadVar t (<-asAddr (a.tmps.getD a' undef)):Sem Value).run P w= .ok v w/\ai w (own c φ) κ x v:=by
 cases r with
 |tmp t=>
  cases q with
  |t n=>
   simp only[lC,SR,S_,S5] at Z
   obtain⟨rfl,hn⟩:=Z
   simp only[RV.sv,SN] at hg
   subst hg
   exact⟨_,rfl,D.slots t hn⟩
  |cell _ _=>simp[lC] at Z
 |cell a' t=>
  cases q with
  |t n=>simp[lC] at Z
  |cell n sz=>
   simp only[lC,SR,S_,S5] at Z
   obtain⟨⟨⟨⟨rfl,hn⟩,h2⟩,E⟩,rfl⟩:=Z
   split at h2
   ·rename_i S e
    have hs:=D.slots a' hn
    simp only[RV.sv] at hg
    split at hg
    ·rename_i cs B
     rw[B] at hs
     simp only[ai,aW] at hs
     obtain⟨b,o,hv,r7,X,u9⟩:=hs
     split at hg
     ·rename_i s0
      simp only[SN] at hg;subst hg
      obtain⟨vs,hl,h9,L⟩:=u9.values
      have I:=hl.length
      have:=lz (P:=P) (w:=w) (b:=b) (o:=o) (vs:=vs.take (P.cellsOf t)) e h2 E oT (fun j v hj=>L j v (by
       rw[Ub] at hj;split at hj
       ·exact hj
       ·cases hj))
      refine⟨.agg (vs.take (P.cellsOf t)).toArray,by simp[hv,asAddr,this], ?_⟩
      simp only[ai,aW]
      exact⟨_,rfl,fun z hz=>h9 z (Tv hz),hl.take _⟩
     ·cases hg
    ·rename_i id off B
     rw[B] at hs
     simp only[ai] at hs
     obtain⟨b,r5,hv⟩:=hs
     split at hg
     ·rename_i cs M
      split at hg
      ·rename_i g
       obtain⟨rfl,F,r1⟩:=g
       simp only[SN] at hg;subst hg
       have r0:=D.chunks id
       rw[M] at r0
       obtain⟨b',T,vs,G,r2,u,u6,hl,K⟩:=r0
       rw[r5] at r2;simp at r2;subst r2
       have I:=hl.length
       have:=lz (P:=P) (w:=w) (b:=b) (o:=0) (vs:=vs) e h2 E oM (fun j v hj=>by rw[Tx,cell_of_row w b j _ T _ u];simpa using hj)
       refine⟨.agg vs.toArray,by simp[hv,asAddr,this], ?_⟩
       simp only[ai]
       exact⟨_,rfl,u6,(ap.to_S _ _ _ r1 hl).1⟩
      ·cases hg
     ·cases hg
    ·cases hg
   ·cases h2
theorem LA (D:cW c σ κ φ a w):∀ {rs:List ResultVar} {qs:List RV},hY P c.N rs qs=true->∀ {xs:List SV},JF σ qs=some xs->
  ∃ vs:List Value,(rs.mapM fun r=>(match r with| .tmp t=>pure (a.tmps.getD t undef)| .cell a' t=>do loadVar t (<-asAddr (a.tmps.getD a' undef)):Sem Value)).run P w= .ok vs w/\an w (own c φ) κ xs vs
 |[],[],_,xs,h=>by
  simp only[JF,SN] at h;subst h
  exact⟨[],by simp,by unfold an;rfl⟩
 |r::rs,q::qs,Z,xs,h=>by
  simp only[hY,SR] at Z
  simp only[JF] at h
  split at h
  ·rename_i y ys hx T
   simp only[SN] at h;subst h
   obtain⟨v,hv,V⟩:=Re D Z.1 hx
   obtain⟨vs,e,b⟩:=LA D Z.2 T
   refine⟨v::vs, ?_,by unfold an;exact⟨v,vs,rfl,V,b⟩⟩
   simp only[List.mapM_cons,Sem.run_bind,Sem.run_pure]
   rw[hv]
   simp only[Result.andThen_ok,e]
  ·cases h
 |[],_::_,Z,_,_=>by simp[hY] at Z
 |_::_,[],Z,_,_=>by simp[hY] at Z
theorem FJ {vs:List Value} (e:(fn.results.toList.mapM fun r=>(match r with| .tmp t=>pure (a.tmps.getD t undef)| .cell a' t=>do loadVar t (<-asAddr (a.tmps.getD a' undef)):Sem Value)).run P w= .ok vs w):
  (results fn a.tmps).run P w= .ok (if h:vs.toArray.size=1 then vs.toArray[0] else .tuple vs.toArray) w:=by
 have s5:∀ g:ResultVar->Sem Value,(fn.results.mapM g).run P w=((fn.results.toList.mapM g).run P w).andThen fun l w'=> .ok l.toArray w':=fun g=>by
  rw[Array.mapM_eq_mapM_toList]
  simp
 unfold results
 simp only[Sem.run_bind]
 rw[s5]
 exact TX (fun r:Result (List Value)=>(r.andThen fun l w'=>Result.ok l.toArray w').andThen fun(a:Array Value) w'=>Sem.run P (pure (if h:a.size=1 then a[0] else Value.tuple a)) w') e
end
def pQ:List SV->SV
 |[x]=>x
 |l=> .tup l
def uj (i:Nat):SV->SV
 | .own m v=>match cf m v with|some (_,mk)=>mk i|none=> .d .any
 |x=>x
def Cd:SV->Ch
 | .own m v=>match cf m v with|some (ch,_)=>ch|none=> .dead
 |_=> .dead
def AD (N:Nat) (args:List SV):Nat->SV:=fun j=>if j<N then(match args[j]? with|some x=>uj j x|none=> .d .any) else match args[j - N]? with|some x=>uj (j - N) x|none=> .d .any
def Ce (args:List SV):Nat->Ch:=fun i=>match args[i]? with|some x=>Cd x|none=> .dead
def gV (N:Nat) (σ:St):Nat->List SV
 |0=>[]
 |n+1=>gV N σ n++[σ.s (N+n)]
def FK:SV->Bool
 | .own m v=>(cf m v).isSome
 |x=>x.noOwn&&x.closed
def yZ (N n:Nat) (qs:List RV) (res:SV) (outs:List SV):AX->St->Prop
 | .exit _,_=>False
 |_,σ=>∃ O,bm σ O/\∃ xs rs ids,JF O qs=some xs/\res=pQ rs/\rs.length=xs.length/\lb O.h (gV N O n++xs) (outs++rs) ids
section
variable {P:Program}
theorem AE {c:Cx} {σ:St} {κ:Nat->Value} {φ:Nat->List Nat} {a:Act} {w:World} (D:cW c σ κ φ a w):∀ n,n<=c.gs.length->an w (own c φ) κ (gV c.N σ n) (c.gs.take n)
 |0,_=>by simp[gV,an]
 |n+1,h=>by
  have hn:c.gs[n]?=some c.gs[n]:=S0 oM
  rw[List.take_add_one,hn]
  exact(AE D n oM).append (an.one (D.ghost n _ hn))
theorem AF {w:World} {M:Nat->Prop}:∀ {args:List SV} {vs:List Value} {F:List Nat},ap w M κ0 args vs F->∃ p:List (List Nat),p.flatten=F/\p.length=args.length/\∀ (i:Nat) x v G,args[i]?=some x->vs[i]?=some v->p[i]?=some G->aO w M κ0 x v G
 |[],vs,F,h=>by simp only[ap] at h;exact⟨[],by simp[h],rfl,by simp⟩
 |x::args,vs,F,h=>by
  simp only[ap] at h
  obtain⟨u,R,W,F2,rfl,rfl,h1,h2⟩:=h
  obtain⟨p,k1,k2,k3⟩:=AF h2
  refine⟨W::p,by simp[k1],by simp[k2],fun i x' v G hx hv hG=> ?_⟩
  cases i with
  |zero=>simp at hx hv hG;subst hx hv hG;exact h1
  |succ i=>exact k3 i x' v G (by simpa using hx) (by simpa using hv) (by simpa using hG)
theorem FL {p:List (List Nat)} (h:p.flatten.Nodup):(∀ G∈p,G.Nodup)/\∀ (i j:Nat) G H b,i≠j->p[i]?=some G->p[j]?=some H->b∈G->b∉H:=by
 induction p with
 |nil=>simp
 |cons F p ih=>
  simp only[TF] at h
  obtain⟨S,V,t⟩:=TD.1 h
  obtain⟨k1,k2⟩:=ih V
  refine⟨by simpa using⟨S,k1⟩,fun i j G H b r0 hi hj hb d=> ?_⟩
  have e:∀ (k:Nat) G,p[k]?=some G->∀ b∈G,b∈p.flatten:=fun k G hk b hb=>List.mem_flatten.2 ⟨G,SW hk,hb⟩
  cases i with
  |zero=>
   cases j with
   |zero=>exact r0 rfl
   |succ j=>simp at hi hj;subst hi;exact t b hb b (e j H hj b d) rfl
  |succ i=>
   cases j with
   |zero=>simp at hi hj;subst hj;exact t b d b (e i G hi b hb) rfl
   |succ j=>exact k2 i j G H b oM (by simpa using hi) (by simpa using hj) hb d
theorem vn {x:SC} {qs:List RV} {args:List SV} (C:P.funcs[f]?=some fn) (o:fits P f fn x qs args.length=true) (r5:args.all FK=true) (J:outs.length=args.length) (h:AW P x (yZ fn.ntmps args.length qs res outs) ⟨AD fn.ntmps args,Ce args⟩):bu P f args res outs:=by
 obtain⟨l,h6,⟨g,hb,Z⟩,r7,h0⟩:=CU o
 refine⟨h6,fun w M vs F hM B z V S q=> ?_⟩
 have I:=V.length
 obtain⟨p,r8,s6,s7⟩:=AF V
 obtain⟨A,s8⟩:=FL (by rw[r8];exact z)
 refine calls_of_wp C hb ?_
 let c:Cx:=⟨w.heap.size,w,M,(· ∈F),fn.ntmps,vs,S,q,SZ _⟩
 let κ:Nat->Value:=fun i=>match args[i]? with|some (.own _ _)=>vs[i]?.getD (.pointer none)|_=> .pointer none
 let φ:Nat->List Nat:=fun i=>p[i]?.getD []
 have y:∀ i b,b∈φ i->b∈F:=fun i b hb=>by
  simp only[φ] at hb
  cases hi:p[i]? with
  |none=>simp[hi] at hb
  |some G=>simp[hi] at hb;rw[<-r8];exact List.mem_flatten.2 ⟨G,SW hi,hb⟩
 have X:∀ b,own c φ b↔(M b\/b∈F):=fun b=>by
  constructor
  ·rintro(h|⟨i,h⟩)
   ·exact .inl h
   ·exact .inr (y i b h)
  ·rintro(h|h)
   ·exact .inl h
   ·rw[<-r8] at h
    obtain⟨G,hG,r6⟩:=List.mem_flatten.1 h
    obtain⟨i,hi,rfl⟩:=Vb hG
    exact .inr ⟨i,by simp only[φ,S0 hi];exact r6⟩
 have Y:own c φ=fun b=>M b\/b∈F:=funext fun b=>propext (X b)
 have s:∀ i x,args[i]?=some x->∃ v,vs[i]?=some v/\ai w (own c φ) κ (uj i x) v/\jo w (own c φ) κ i (Cd x) (φ i)/\(κ i).oneCell'=true:=fun i x hx=>by
  have hi:i<args.length:=(SY.1 hx).1
  have hv:vs[i]?=some vs[i]:=S0 oM
  have hG:p[i]?=some p[i]:=S0 oM
  have D:=s7 i x _ _ hx hv hG
  have s3:φ i=p[i]:=by simp only[φ,hG,TU]
  have Q:=Ti.1 r5 x (SW hx)
  refine⟨_,hv, ?_⟩
  rw[Y,s3]
  have plain:(∀ m d,x≠ .own m d)->ai w (fun b=>M b\/b∈F) κ (uj i x) vs[i]/\jo w (fun b=>M b\/b∈F) κ i (Cd x) p[i]/\(κ i).oneCell'=true:=fun U=>by
   have r1:x.noOwn=true/\x.closed=true:=by
    cases x<;>simp_all [FK]
   obtain⟨h1,h2⟩:=aO.to_S _ _ _ r1.1 D
   have e1:uj i x=x:=by cases x<;>simp_all [uj]
   have e2:Cd x= .dead:=by cases x<;>simp_all [Cd]
   rw[e1,e2]
   refine⟨h1.kappa _ _ r1.2,h2, ?_⟩
   simp only[κ,hx]
   cases x<;>first|rfl|simp_all
  cases x with
  |own m d=>
   simp only[FK] at Q
   obtain⟨⟨ch,mk⟩,ho⟩:=T0.1 Q
   simp only[aO] at D
   obtain⟨h9,r2⟩:=At D ho
   have n:κ i=vs[i]:=by simp only[κ,hx,hv,TU]
   simp only[uj,Cd,ho]
   exact⟨r2 κ i n,(og D.shape ho n).2 D,by rw[n];exact h9⟩
  |_=>exact plain oS
 have D:cW c ⟨AD fn.ntmps args,Ce args⟩ κ φ {tmps:=vs.toArray++Array.replicate (fn.ntmps - vs.toArray.size) undef,defers:=[]} w:=by
  refine⟨CI.refl _ _ _,SZ _,fun b hb=>⟨(hM b hb).1,(hM b hb).2⟩, ?_,rfl,fun i=> ?_,fun i hi=> ?_,fun i v hv=> ?_,fun i=> ?_,fun i b hb=>⟨B b (y i b hb),.inr (y i b hb)⟩,fun i=> ?_,fun i j b r0 hi hj=> ?_⟩
  ·show _=fn.ntmps
   simp;omega
  ·cases hx:args[i]? with
   |none=>simp only[κ,hx];rfl
   |some x=>obtain⟨_,_,_,_,h4⟩:=s i x hx;exact h4
  ·simp only[AD]
   have h5:i<fn.ntmps:=hi
   simp only[h5,TB]
   cases hx:args[i]? with
   |none=>simp[ai,aW]
   |some x=>
    obtain⟨v,hv,h2,_⟩:=s i x hx
    have h5:i<vs.length:=(SY.1 hv).1
    rw[TH,Array.getElem?_append_left (by simpa using h5)]
    simpa[hv] using h2
  ·show ai w (own c φ) κ (AD fn.ntmps args (fn.ntmps+i)) v
   have e:¬ (fn.ntmps+i<fn.ntmps):=by omega
   simp only[AD,e,Tq,Nat.add_sub_cancel_left]
   cases hx:args[i]? with
   |none=>simp[ai,aW]
   |some x=>
    obtain⟨v',r9,h2,_⟩:=s i x hx
    have:vs[i]?=some v:=hv
    rw[this] at r9;simp at r9;subst r9;exact h2
  ·show jo w (own c φ) κ i (Ce args i) (φ i)
   simp only[Ce]
   cases hx:args[i]? with
   |none=>
    have:p[i]?=none:=by rw[List.getElem?_eq_none_iff,s6];exact List.getElem?_eq_none_iff.1 hx
    simp only[jo,φ,this,UL]
   |some x=>obtain⟨_,_,_,E,_⟩:=s i x hx;exact E
  ·simp only[φ]
   cases hi:p[i]? with
   |none=>simp
   |some G=>simp;exact A G (SW hi)
  ·simp only[φ] at hi hj
   cases s1:p[i]? with
   |none=>simp[s1] at hi
   |some G=>
    cases s2:p[j]? with
    |none=>simp[s2] at hj
    |some H=>
     simp[s1] at hi;simp[s2] at hj
     exact s8 i j G H b r0 s1 s2 hi hj
 have fin:∀ σ κ φ a w',cW c σ κ φ a w'->(∃ O,bm σ O/\∃ xs rs ids,JF O qs=some xs/\res=pQ rs/\rs.length=xs.length/\lb O.h (gV fn.ntmps O args.length++xs) (outs++rs) ids)->
   a.defers=[]/\∃ v,(results fn a.tmps).run P w'= .ok v w'/\(∃ v' W F2,Ending.returned v= .returned v'/\ap w' (fun b=>M b\/b∈W++F2) κ0 outs vs W/\aO w' (fun b=>M b\/b∈W++F2) κ0 res v' F2/\(W++F2).Nodup/\
   (∀ b∈W++F2,(b∈F\/w.heap.size<=b)/\b<w'.heap.size)/\CI w.heap.size (· ∈F) w w'):=by
  rintro σ κ φ a w' h8 ⟨O,r3,xs,rs,ids,s9,rfl,k,s4⟩
  obtain⟨N,h7,h8⟩:=r3 _ _ _ _ _ h8
  obtain⟨R,K,T⟩:=LA h8 r7 s9
  have t:=AE h8 args.length (by show args.length<=vs.length;omega)
  rw[show c.gs.take args.length=vs from Tt (by show vs.length<=args.length;omega)] at t
  obtain⟨L,k1,k2,k3⟩:=NU h8 s4 (t.append T)
  have s0:∀ b,(M b\/b∈L)->own c h7 b:=fun b hb=>by
   rcases hb with hb|hb
   ·exact .inl hb
   ·obtain⟨i,_,hi⟩:=k2 b hb;exact .inr ⟨i,hi⟩
  obtain⟨W,F2,s5,k4,k5⟩:=(k1 (fun b=>M b\/b∈L) s0).split
  rw[J] at k4 k5
  rw[show args.length=vs.length by omega,List.take_left] at k4
  rw[show args.length=vs.length by omega,UI] at k5
  subst s5
  refine⟨h8.defers,_,FJ K,_,W,F2,rfl,k4, ?_,k3,fun b hb=> ?_,h8.chg⟩
  ·have r4:=T.length
   match rs,k,k5 with
   |[r],k,k5=>
    have:R.length=1:=by simp at k;omega
    match R,this,k5 with
    |[u],_,k5=>
     simp only[ap,TG] at k5
     obtain⟨_,_,G1,G2,⟨rfl,rfl⟩,hG,g1,_,rfl⟩:=k5
     rw[Tg] at hG
     subst hG
     simpa[pQ] using g1
   |[],k,k5=>
    have:R=[]:=Ta.1 (by simp at k;omega)
    subst this
    simp only[pQ,aO]
    exact⟨[],by simp,k5⟩
   |r::r'::rs,k,k5=>
    simp only[pQ,aO]
    refine⟨R, ?_,k5⟩
    simp only[ST] at k
    rw[dif_neg oT]
  ·obtain⟨i,_,hi⟩:=k2 b hb
   have:=h8.mine i b hi
   exact⟨this.2.symm,this.1⟩
 exact h l c g _ Z ⟨fun σ κ φ a w' h8 hq=>fin σ κ φ a w' h8 hq,fun i σ κ φ a w' h8 hq=>hq.elim,fun σ κ φ a w' h8 hq=>fin σ κ φ a w' h8 hq⟩ _ _ _ _ D
end
mutual
def SV.thaw:SV->Option DV
 | .own m v=>if m.plain then some v else none
 | .agg cs=>match SV.thaws cs with|some l=>some (.agg l)|none=>none
 | .tup cs=>match SV.thaws cs with|some l=>some (.tup l)|none=>none
 | .d v=>some v
 | .nils=>some (.slice [])
 | .lit s n cs=>SV.toDV (.lit s n cs)
 | .ref _ _=>none
 | .vec _=>none
 | .vref _ _ _ _=>none
 | .mp _=>none
def SV.thaws:List SV->Option (List DV)
 |[]=>some []
 |c::cs=>match SV.thaw c,SV.thaws cs with|some x,some xs=>some (x::xs)|_,_=>none
end
mutual
theorem AG {w:World} {M M':Nat->Prop} {κ:Nat->Value} (hM:∀ b,M' b->M b):∀ (x:SV) (u:Value) (F:List Nat) (d:DV),(∀ b∈F,¬ M' b)->aO w M κ x u F->x.thaw=some d->aW w M' d u
 | .own m v,u,F,d,B,D,h=>nI hM B D (by simpa only[SV.thaw,SV.frz] using h)
 | .d v,u,F,d,B,D,h=>nI hM B D (by simpa only[SV.thaw,SV.frz] using h)
 | .nils,u,F,d,B,D,h=>nI hM B D (by simpa only[SV.thaw,SV.frz] using h)
 | .lit s n cs,u,F,d,B,D,h=>nI hM B D (by simpa only[SV.thaw,SV.frz] using h)
 | .agg cs,u,F,d,B,D,h=>by
  simp only[SV.thaw] at h
  split at h
  ·rename_i l hl
   simp only[SN] at h;subst h
   simp only[aO] at D
   obtain⟨vs,h1,h2,E⟩:=D
   unfold aW
   exact⟨vs,h1,h2,xA hM cs vs F l B E hl⟩
  ·cases h
 | .tup cs,u,F,d,B,D,h=>by
  simp only[SV.thaw] at h
  split at h
  ·rename_i l hl
   simp only[SN] at h;subst h
   simp only[aO] at D
   obtain⟨vs,h1,E⟩:=D
   unfold aW
   exact⟨vs,h1,xA hM cs vs F l B E hl⟩
  ·cases h
 | .ref _ _,_,_,_,_,_,h=>by simp[SV.thaw] at h
 | .vec _,_,_,_,_,_,h=>by simp[SV.thaw] at h
 | .vref _ _ _ _,_,_,_,_,_,h=>by simp[SV.thaw] at h
 | .mp _,_,_,_,_,_,h=>by simp[SV.thaw] at h
theorem xA {w:World} {M M':Nat->Prop} {κ:Nat->Value} (hM:∀ b,M' b->M b):∀ (cs:List SV) (R:List Value) (F:List Nat) (J:List DV),(∀ b∈F,¬ M' b)->ap w M κ cs R F->SV.thaws cs=some J->aC w M' J R
 |[],R,F,J,B,D,h=>by
  simp only[SV.thaws,SN] at h;subst h
  simp only[ap] at D;unfold aC;exact D.1
 |c::cs,R,F,J,B,D,h=>by
  simp only[SV.thaws] at h
  split at h
  ·rename_i x xs hx T
   simp only[SN] at h;subst h
   simp only[ap] at D
   obtain⟨u,g,W,F2,rfl,rfl,h1,h2⟩:=D
   unfold aC
   exact⟨u,g,rfl,AG hM c u W x (fun b hb=>B b (by simp[hb])) h1 hx,xA hM cs g F2 xs (fun b hb=>B b (by simp[hb])) h2 T⟩
  ·cases h
end
theorem bu.pure {P:Program} {args:List DV} {d:DV} (h:bu P f (args.map .d) res outs) (hd:res.thaw=some d):ac P f args d:=by
 refine⟨h.1,fun w M vs hM V S=> ?_⟩
 have n:ap w (fun b=>M b\/b∈([]:List Nat)) κ0 (args.map .d) vs []:=ap.of_S _ _ (an.of_d (V.ext (jE.shrink fun b hb=>by simpa using hb)))
 refine(h.2 w M vs [] (fun b hb=>⟨hM b hb,by simp⟩) oS oS n S (fun _ _ h=>by cases h)).mono ?_
 rintro e w' ⟨v,W,F2,rfl,_,h2,_,h4,h5⟩
 refine⟨v,rfl,AG (fun b hb=> .inl hb) res v F2 d (fun b hb Z=> ?_) h2 hd,h5.below oS⟩
 have:=(h4 b (by simp[hb])).1
 have:=hM b Z
 simp at *
 omega
end Go.Proofs.YtgmnipfafmphaaaGreatDoor

