/-
  My text.
-/
import Derived.Test.YteaolfcegaidpaaGreatDoorSZEngL
namespace Go.Proofs.YteaolfcegaidpaaGreatDoor
set_option linter.unusedSimpArgs false
set_option linter.unusedVariables false
open Go.RowKit
inductive pS (h:Nat->Ch):List SV->List SV->List Nat->Prop
 |nil:pS h [] [] []
 |any {x:SV} {xs rs:List SV} {ids:List Nat} (hl:pS h xs rs ids):pS h (x::xs) (.d .any::rs) ids
 |data {x:SV} {d:DV} {xs rs:List SV} {ids:List Nat} (hx:x.toDV=some d) (hl:pS h xs rs ids):pS h (x::xs) (.d d::rs) ids
 |nils {e:Nat} {ms:List cO} {xs rs:List SV} {ids:List Nat} (hl:pS h xs rs ids):pS h (.nils::xs) (.own (.sl e ms) (.slice [])::rs) ids
 |own {id:Nat} {m:cO} {d:DV} {ch:Ch} {mk:Nat->SV} {xs rs:List SV} {ids:List Nat} (ho:cL m d=some (ch,mk)) (hs:eQ m d) (hh:h id=ch) (hn:id∉ids) (hl:pS h xs rs ids):pS h (mk id::xs) (.own m d::rs) (id::ids)
 |agg {cs rs1 xs rs:List SV} {ids1 ids:List Nat} (hc:pS h cs rs1 ids1) (hn:∀ i∈ids1,i∉ids) (hl:pS h xs rs ids):pS h (.agg cs::xs) (.agg rs1::rs) (ids1++ids)
variable {C:SV} {f:FuncId} {fn:Func} {outs:List SV}
section
variable {P:Program} {c:Cx} {σ:St} {κ:Nat->Value} {φ:Nat->List Nat} {a:Act} {w:World}
theorem OB (hr:cH c σ κ φ a w) {xs rs:List SV} {ids:List Nat} (h:pS σ.h xs rs ids):∀ {vs:List Value},an w (own c φ) κ xs vs->
  ∃ F,(∀ M:Nat->Prop,(∀ b,M b->own c φ b)->ar w M κ0 rs vs F)/\(∀ b∈F,∃ id∈ids,b∈φ id)/\F.Nodup:=by
 induction h with
 |nil=>intro vs hx;simp only[an] at hx;exact⟨[],fun M _=>by simp[ar,hx],by simp,by simp⟩
 |any _ ih=>
  intro vs T
  simp only[an] at T
  obtain⟨u,us,rfl,h1,h2⟩:=T
  obtain⟨F,k1,k2,k3⟩:=ih h2
  refine⟨F,fun M hM=> ?_,k2,k3⟩
  simp only[ar]
  exact⟨u,us,[],F,rfl,rfl,by unfold aQ ah ba;exact⟨rfl,trivial⟩,k1 M hM⟩
 |data hx _ ih=>
  intro vs T
  simp only[an] at T
  obtain⟨u,us,rfl,h1,h2⟩:=T
  obtain⟨F,k1,k2,k3⟩:=ih h2
  refine⟨F,fun M hM=> ?_,k2,k3⟩
  simp only[ar]
  exact⟨u,us,[],F,rfl,rfl,by unfold aQ ah;exact⟨rfl,(ah.toDV _ _ _ h1 hx).ext (lA.shrink hM)⟩,k1 M hM⟩
 |nils _ ih=>
  intro vs T
  simp only[an] at T
  obtain⟨u,us,rfl,h1,h2⟩:=T
  obtain⟨F,k1,k2,k3⟩:=ih h2
  refine⟨F,fun M hM=> ?_,k2,k3⟩
  simp only[ar]
  refine⟨u,us,[],F,rfl,rfl, ?_,k1 M hM⟩
  simp only[ah] at h1
  subst h1
  simp only[aQ,eR]
  exact⟨[],[],[],rfl,World.ownsRow_nil w 0 _ _,by simp,by simp,by simp[fz],by simp[hP,yj]⟩
 | @own id m d ch mk _ _ ids ho hs hh hn _ ih=>
  intro vs T
  simp only[an] at T
  obtain⟨u,us,rfl,h1,h2⟩:=T
  obtain⟨F,k1,k2,k3⟩:=ih h2
  have r2:=hr.chunks id
  rw[hh] at r2
  obtain⟨hk,_⟩:=GF (φ:=φ) ho (aQ.of_S _ _ h1) r2
  have hO:=(sd hs ho hk).1 r2
  refine⟨φ id++F,fun M hM=> ?_,fun b hb=> ?_,TC.2 ⟨hr.nod id,k3,fun x hx y hy e=> ?_⟩⟩
  ·simp only[ar]
   exact⟨u,us,φ id,F,rfl,rfl,by simp only[aQ];exact eR.ext (lA.shrink hM) _ _ _ _ (fun _ _=>rfl) hO,k1 M hM⟩
  ·rcases Ta.1 hb with hb|hb
   ·exact⟨id,by simp,hb⟩
   ·obtain⟨j,hj,l⟩:=k2 b hb;exact⟨j,by simp[hj],l⟩
  ·subst e
   obtain⟨j,hj,k⟩:=k2 x hy
   exact hr.sep id j x (fun e=>hn (e▸hj)) hx k
 | @agg cs rs1 xs rs ids1 ids _ hn _ f ih=>
  intro vs T
  simp only[an] at T
  obtain⟨u,us,rfl,h1,h2⟩:=T
  simp only[ah] at h1
  obtain⟨A,rfl,E,h4⟩:=h1
  obtain⟨z,g1,g2,g3⟩:=f h4
  obtain⟨F,k1,k2,k3⟩:=ih h2
  refine⟨z++F,fun M hM=> ?_,fun b hb=> ?_,TC.2 ⟨g3,k3,fun x hx y hy e=> ?_⟩⟩
  ·simp only[ar]
   exact⟨_,us,z,F,rfl,rfl,by simp only[aQ];exact⟨A,rfl,E,g1 M hM⟩,k1 M hM⟩
  ·rcases Ta.1 hb with hb|hb
   ·obtain⟨j,hj,l⟩:=g2 b hb;exact⟨j,by simp[hj],l⟩
   ·obtain⟨j,hj,l⟩:=k2 b hb;exact⟨j,by simp[hj],l⟩
  ·subst e
   obtain⟨i,hi,g⟩:=g2 x hx
   obtain⟨j,hj,k⟩:=k2 x hy
   exact hr.sep i j x (fun e=>hn i hi (e▸hj)) g k
def RV.sv (σ:St):RV->Option SV
 | .t n=>some (σ.s n)
 | .cell n sz=>match σ.s n with
  | .d (.ptr cs)=>if sz<=cs.length then some (.d (.agg (cs.take sz))) else none
  | .ref id off=>match σ.h id with
   | .box cs=>if off=0/\sz=cs.length/\SV.noOwns cs=true then some (.agg cs) else none
   |_=>none
  |_=>none
def Hg (σ:St):List RV->Option (List SV)
 |[]=>some []
 |r::rs=>match r.sv σ,Hg σ rs with|some x,some xs=>some (x::xs)|_,_=>none
theorem Rs (hr:cH c σ κ φ a w) {r:ResultVar} {q:RV} (Z:nV P c.N r q=true) {x:SV} (hg:q.sv σ=some x):
  ∃ v,(match r with| .tmp t=>pure (a.tmps.getD t undef)| .cell a' t=>do loadVar t (<-asAddr (a.tmps.getD a' undef)):Sem Value).run P w= .ok v w/\ah w (own c φ) κ x v:=by
 cases r with
 |tmp t=>
  cases q with
  |t n=>
   simp only[nV,SR,S1,SU] at Z
   obtain⟨rfl,hn⟩:=Z
   simp only[RV.sv,SN] at hg
   subst hg
   exact⟨_,rfl,hr.slots t hn⟩
  |cell _ _=>simp[nV] at Z
 |cell a' t=>
  cases q with
  |t n=>simp[nV] at Z
  |cell n sz=>
   simp only[nV,SR,S1,SU] at Z
   obtain⟨⟨⟨⟨rfl,hn⟩,h2⟩,E⟩,rfl⟩:=Z
   split at h2
   ·rename_i J e
    have hs:=hr.slots a' hn
    simp only[RV.sv] at hg
    split at hg
    ·rename_i cs B
     rw[B] at hs
     simp only[ah,ba] at hs
     obtain⟨b,o,hv,s6,h9,v0⟩:=hs
     split at hg
     ·rename_i r9
      simp only[SN] at hg;subst hg
      obtain⟨vs,hl,s,F⟩:=v0.values
      have h8:=hl.length
      have:=nS (P:=P) (w:=w) (b:=b) (o:=o) (vs:=vs.take (P.cellsOf t)) e h2 E oT (fun j v hj=>F j v (by
       rw[T5] at hj;split at hj
       ·exact hj
       ·cases hj))
      refine⟨.agg (vs.take (P.cellsOf t)).toArray,by simp[hv,asAddr,this], ?_⟩
      simp only[ah,ba]
      exact⟨_,rfl,fun z hz=>s z (Tm hz),hl.take _⟩
     ·cases hg
    ·rename_i id off B
     rw[B] at hs
     simp only[ah] at hs
     obtain⟨b,r4,hv⟩:=hs
     split at hg
     ·rename_i cs H
      split at hg
      ·rename_i f
       obtain⟨rfl,I,r6⟩:=f
       simp only[SN] at hg;subst hg
       have r2:=hr.chunks id
       rw[H] at r2
       obtain⟨b',T,vs,G,r3,u,s9,hl,K⟩:=r2
       rw[r4] at r3;simp at r3;subst r3
       have h8:=hl.length
       have:=nS (P:=P) (w:=w) (b:=b) (o:=0) (vs:=vs) e h2 E oM (fun j v hj=>by rw[TJ,cell_of_row w b j _ T _ u];simpa using hj)
       refine⟨.agg vs.toArray,by simp[hv,asAddr,this], ?_⟩
       simp only[ah]
       exact⟨_,rfl,s9,(ar.to_S _ _ _ r6 hl).1⟩
      ·cases hg
     ·cases hg
    ·cases hg
   ·cases h2
theorem Jg (hr:cH c σ κ φ a w):∀ {rs:List ResultVar} {qs:List RV},hW P c.N rs qs=true->∀ {xs:List SV},Hg σ qs=some xs->
  ∃ vs:List Value,(rs.mapM fun r=>(match r with| .tmp t=>pure (a.tmps.getD t undef)| .cell a' t=>do loadVar t (<-asAddr (a.tmps.getD a' undef)):Sem Value)).run P w= .ok vs w/\an w (own c φ) κ xs vs
 |[],[],_,xs,h=>by
  simp only[Hg,SN] at h;subst h
  exact⟨[],by simp,by unfold an;rfl⟩
 |r::rs,q::qs,Z,xs,h=>by
  simp only[hW,SR] at Z
  simp only[Hg] at h
  split at h
  ·rename_i y ys hx T
   simp only[SN] at h;subst h
   obtain⟨v,hv,r0⟩:=Rs hr Z.1 hx
   obtain⟨vs,e,b⟩:=Jg hr Z.2 T
   refine⟨v::vs, ?_,by unfold an;exact⟨v,vs,rfl,r0,b⟩⟩
   simp only[List.mapM_cons,Sem.run_bind,Sem.run_pure]
   rw[hv]
   simp only[Result.andThen_ok,e]
  ·cases h
 |[],_::_,Z,_,_=>by simp[hW] at Z
 |_::_,[],Z,_,_=>by simp[hW] at Z
theorem Ca {vs:List Value} (e:(fn.results.toList.mapM fun r=>(match r with| .tmp t=>pure (a.tmps.getD t undef)| .cell a' t=>do loadVar t (<-asAddr (a.tmps.getD a' undef)):Sem Value)).run P w= .ok vs w):
  (results fn a.tmps).run P w= .ok (if h:vs.toArray.size=1 then vs.toArray[0] else .tuple vs.toArray) w:=by
 have s4:∀ g:ResultVar->Sem Value,(fn.results.mapM g).run P w=((fn.results.toList.mapM g).run P w).andThen fun l w'=> .ok l.toArray w':=fun g=>by
  rw[Array.mapM_eq_mapM_toList]
  simp
 unfold results
 simp only[Sem.run_bind]
 rw[s4]
 exact congrArg (fun r:Result (List Value)=>(r.andThen fun l w'=>Result.ok l.toArray w').andThen fun(a:Array Value) w'=>Sem.run P (pure (if h:a.size=1 then a[0] else Value.tuple a)) w') e
end
def mj:List SV->SV
 |[x]=>x
 |l=> .tup l
def yC (i:Nat):SV->SV
 | .own m v=>match cL m v with|some (_,mk)=>mk i|none=> .d .any
 |x=>x
def ES:SV->Ch
 | .own m v=>match cL m v with|some (ch,_)=>ch|none=> .dead
 |_=> .dead
def DK (N:Nat) (args:List SV):Nat->SV:=fun j=>if j<N then(match args[j]? with|some x=>yC j x|none=> .d .any) else match args[j - N]? with|some x=>yC (j - N) x|none=> .d .any
def ET (args:List SV):Nat->Ch:=fun i=>match args[i]? with|some x=>ES x|none=> .dead
def gB (N:Nat) (σ:St):Nat->List SV
 |0=>[]
 |n+1=>gB N σ n++[σ.s (N+n)]
def HY:SV->Bool
 | .own m v=>(cL m v).isSome
 |x=>x.noOwn&&x.closed
def z_ (N n:Nat) (qs:List RV) (C:SV) (outs:List SV):AX->St->Prop
 | .exit _,_=>False
 |_,σ=>∃ X,cS σ X/\∃ xs rs ids,Hg X qs=some xs/\C=mj rs/\rs.length=xs.length/\pS X.h (gB N X n++xs) (outs++rs) ids
section
variable {P:Program}
theorem DL {c:Cx} {σ:St} {κ:Nat->Value} {φ:Nat->List Nat} {a:Act} {w:World} (hr:cH c σ κ φ a w):∀ n,n<=c.gs.length->an w (own c φ) κ (gB c.N σ n) (c.gs.take n)
 |0,_=>by simp[gB,an]
 |n+1,h=>by
  have hn:c.gs[n]?=some c.gs[n]:=S3 oM
  rw[List.take_add_one,hn]
  exact(DL hr n oM).append (an.one (hr.ghost n _ hn))
theorem DM {w:World} {M:Nat->Prop}:∀ {args:List SV} {vs:List Value} {F:List Nat},ar w M κ0 args vs F->∃ q:List (List Nat),q.flatten=F/\q.length=args.length/\∀ (i:Nat) x v G,args[i]?=some x->vs[i]?=some v->q[i]?=some G->aQ w M κ0 x v G
 |[],vs,F,h=>by simp only[ar] at h;exact⟨[],by simp[h],rfl,by simp⟩
 |x::args,vs,F,h=>by
  simp only[ar] at h
  obtain⟨u,us,z,I,rfl,rfl,h1,h2⟩:=h
  obtain⟨q,k1,k2,k3⟩:=DM h2
  refine⟨z::q,by simp[k1],by simp[k2],fun i L v G hx hv t=> ?_⟩
  cases i with
  |zero=>simp at hx hv t;subst hx hv t;exact h1
  |succ i=>exact k3 i L v G (by simpa using hx) (by simpa using hv) (by simpa using t)
theorem HZ {q:List (List Nat)} (h:q.flatten.Nodup):(∀ G∈q,G.Nodup)/\∀ (i j:Nat) G H b,i≠j->q[i]?=some G->q[j]?=some H->b∈G->b∉H:=by
 induction q with
 |nil=>simp
 |cons F q ih=>
  simp only[TB] at h
  obtain⟨U,n2,C⟩:=TC.1 h
  obtain⟨k1,k2⟩:=ih n2
  refine⟨by simpa using⟨U,k1⟩,fun i j G H b V hi hj hb d=> ?_⟩
  have e:∀ (k:Nat) G,q[k]?=some G->∀ b∈G,b∈q.flatten:=fun k G hk b hb=>List.mem_flatten.2 ⟨G,ST hk,hb⟩
  cases i with
  |zero=>
   cases j with
   |zero=>exact V rfl
   |succ j=>simp at hi hj;subst hi;exact C b hb b (e j H hj b d) rfl
  |succ i=>
   cases j with
   |zero=>simp at hi hj;subst hj;exact C b d b (e i G hi b hb) rfl
   |succ j=>exact k2 i j G H b oM (by simpa using hi) (by simpa using hj) hb d
theorem za {x:SC} {qs:List RV} {args:List SV} (hf:P.funcs[f]?=some fn) (o:fits P f fn x qs args.length=true) (N:args.all HY=true) (O:outs.length=args.length) (h:AW P x (z_ fn.ntmps args.length qs C outs) ⟨DK fn.ntmps args,ET args⟩):bB P f args C outs:=by
 obtain⟨D,h9,⟨g,hb,U⟩,h0,R⟩:=Fv o
 refine⟨h9,fun w M vs F hM Q r4 r0 k n=> ?_⟩
 have h8:=r0.length
 obtain⟨q,s0,s8,s9⟩:=DM r0
 obtain⟨r3,u0⟩:=HZ (by rw[s0];exact r4)
 refine calls_of_wp hf hb ?_
 let c:Cx:=⟨w.heap.size,w,M,(· ∈F),fn.ntmps,vs,k,n,S0 _⟩
 let κ:Nat->Value:=fun i=>match args[i]? with|some (.own _ _)=>vs[i]?.getD (.pointer none)|_=> .pointer none
 let φ:Nat->List Nat:=fun i=>q[i]?.getD []
 have K:∀ i b,b∈φ i->b∈F:=fun i b hb=>by
  simp only[φ] at hb
  cases hi:q[i]? with
  |none=>simp[hi] at hb
  |some G=>simp[hi] at hb;rw[<-s0];exact List.mem_flatten.2 ⟨G,ST hi,hb⟩
 have h7:∀ b,own c φ b↔(M b\/b∈F):=fun b=>by
  constructor
  ·rintro(h|⟨i,h⟩)
   ·exact .inl h
   ·exact .inr (K i b h)
  ·rintro(h|h)
   ·exact .inl h
   ·rw[<-s0] at h
    obtain⟨G,t,Y⟩:=List.mem_flatten.1 h
    obtain⟨i,hi,rfl⟩:=List.getElem_of_mem t
    exact .inr ⟨i,by simp only[φ,S3 hi];exact Y⟩
 have p:own c φ=fun b=>M b\/b∈F:=funext fun b=>propext (h7 b)
 have y:∀ i x,args[i]?=some x->∃ v,vs[i]?=some v/\ah w (own c φ) κ (yC i x) v/\kK w (own c φ) κ i (ES x) (φ i)/\(κ i).oneCell'=true:=fun i x hx=>by
  have hi:i<args.length:=(SY.1 hx).1
  have hv:vs[i]?=some vs[i]:=S3 oM
  have t:q[i]?=some q[i]:=S3 oM
  have hr:=s9 i x _ _ hx hv t
  have s5:φ i=q[i]:=by simp only[φ,t,TI]
  have Z:=Tp.1 N x (ST hx)
  refine⟨_,hv, ?_⟩
  rw[p,s5]
  have plain:(∀ m d,x≠ .own m d)->ah w (fun b=>M b\/b∈F) κ (yC i x) vs[i]/\kK w (fun b=>M b\/b∈F) κ i (ES x) q[i]/\(κ i).oneCell'=true:=fun A=>by
   have r6:x.noOwn=true/\x.closed=true:=by
    cases x<;>simp_all [HY]
   obtain⟨h1,h2⟩:=aQ.to_S _ _ _ r6.1 hr
   have e1:yC i x=x:=by cases x<;>simp_all [yC]
   have e2:ES x= .dead:=by cases x<;>simp_all [ES]
   rw[e1,e2]
   refine⟨h1.kappa _ _ r6.2,h2, ?_⟩
   simp only[κ,hx]
   cases x<;>first|rfl|simp_all
  cases x with
  |own m d=>
   simp only[HY] at Z
   obtain⟨⟨ch,mk⟩,ho⟩:=TX.1 Z
   simp only[aQ] at hr
   obtain⟨s,r8⟩:=Dw hr ho
   have l:κ i=vs[i]:=by simp only[κ,hx,hv,TI]
   simp only[yC,ES,ho]
   exact⟨r8 κ i l,(sd hr.shape ho l).2 hr,by rw[l];exact s⟩
  |_=>exact plain oS
 have hr:cH c ⟨DK fn.ntmps args,ET args⟩ κ φ {tmps:=vs.toArray++Array.replicate (fn.ntmps - vs.toArray.size) undef,defers:=[]} w:=by
  refine⟨AK.refl _ _ _,S0 _,fun b hb=>⟨(hM b hb).1,(hM b hb).2⟩, ?_,rfl,fun i=> ?_,fun i hi=> ?_,fun i v hv=> ?_,fun i=> ?_,fun i b hb=>⟨Q b (K i b hb),.inr (K i b hb)⟩,fun i=> ?_,fun i j b V hi hj=> ?_⟩
  ·show _=fn.ntmps
   simp;omega
  ·cases hx:args[i]? with
   |none=>simp only[κ,hx];rfl
   |some x=>obtain⟨_,_,_,_,h4⟩:=y i x hx;exact h4
  ·simp only[DK]
   have h5:i<fn.ntmps:=hi
   simp only[h5,T6]
   cases hx:args[i]? with
   |none=>simp[ah,ba]
   |some x=>
    obtain⟨v,hv,h2,_⟩:=y i x hx
    have h5:i<vs.length:=(SY.1 hv).1
    rw[TD,Array.getElem?_append_left (by simpa using h5)]
    simpa[hv] using h2
  ·show ah w (own c φ) κ (DK fn.ntmps args (fn.ntmps+i)) v
   have e:¬ (fn.ntmps+i<fn.ntmps):=by omega
   simp only[DK,e,Tv,Nat.add_sub_cancel_left]
   cases hx:args[i]? with
   |none=>simp[ah,ba]
   |some x=>
    obtain⟨v',r7,h2,_⟩:=y i x hx
    have:vs[i]?=some v:=hv
    rw[this] at r7;simp at r7;subst r7;exact h2
  ·show kK w (own c φ) κ i (ET args i) (φ i)
   simp only[ET]
   cases hx:args[i]? with
   |none=>
    have:q[i]?=none:=by rw[T4,s8];exact T4.1 hx
    simp only[kK,φ,this,T8]
   |some x=>obtain⟨_,_,_,E,_⟩:=y i x hx;exact E
  ·simp only[φ]
   cases hi:q[i]? with
   |none=>simp
   |some G=>simp;exact r3 G (ST hi)
  ·simp only[φ] at hi hj
   cases s2:q[i]? with
   |none=>simp[s2] at hi
   |some G=>
    cases s4:q[j]? with
    |none=>simp[s4] at hj
    |some H=>
     simp[s2] at hi;simp[s4] at hj
     exact u0 i j G H b V s2 s4 hi hj
 have B:∀ σ κ φ a w',cH c σ κ φ a w'->(∃ X,cS σ X/\∃ xs rs ids,Hg X qs=some xs/\C=mj rs/\rs.length=xs.length/\pS X.h (gB fn.ntmps X args.length++xs) (outs++rs) ids)->
   a.defers=[]/\∃ v,(results fn a.tmps).run P w'= .ok v w'/\(∃ v' z I,Ending.returned v= .returned v'/\ar w' (fun b=>M b\/b∈z++I) κ0 outs vs z/\aQ w' (fun b=>M b\/b∈z++I) κ0 C v' I/\(z++I).Nodup/\
   (∀ b∈z++I,(b∈F\/w.heap.size<=b)/\b<w'.heap.size)/\AK w.heap.size (· ∈F) w w'):=by
  rintro σ κ φ a w' r1 ⟨X,r2,xs,rs,ids,s3,rfl,L,s6⟩
  obtain⟨W,h6,r1⟩:=r2 _ _ _ _ _ r1
  obtain⟨us,s1,T⟩:=Jg r1 h0 s3
  have S:=DL r1 args.length (by show args.length<=vs.length;omega)
  rw[show c.gs.take args.length=vs from Tr (by show vs.length<=args.length;omega)] at S
  obtain⟨J,k1,k2,k3⟩:=OB r1 s6 (S.append T)
  have r9:∀ b,(M b\/b∈J)->own c h6 b:=fun b hb=>by
   rcases hb with hb|hb
   ·exact .inl hb
   ·obtain⟨i,_,hi⟩:=k2 b hb;exact .inr ⟨i,hi⟩
  obtain⟨z,I,s7,k4,k5⟩:=(k1 (fun b=>M b\/b∈J) r9).split
  rw[O] at k4 k5
  rw[show args.length=vs.length by omega,List.take_left] at k4
  rw[show args.length=vs.length by omega,List.drop_left] at k5
  subst s7
  refine⟨r1.defers,_,Ca s1,_,z,I,rfl,k4, ?_,k3,fun b hb=> ?_,r1.chg⟩
  ·have r5:=T.length
   match rs,L,k5 with
   |[r],L,k5=>
    have:us.length=1:=by simp at L;omega
    match us,this,k5 with
    |[u],_,k5=>
     simp only[ar,TA] at k5
     obtain⟨_,_,G1,G2,⟨rfl,rfl⟩,t,g1,_,rfl⟩:=k5
     rw[Tg] at t
     subst t
     simpa[mj] using g1
   |[],L,k5=>
    have:us=[]:=Te.1 (by simp at L;omega)
    subst this
    simp only[mj,aQ]
    exact⟨[],by simp,k5⟩
   |r::r'::rs,L,k5=>
    simp only[mj,aQ]
    refine⟨us, ?_,k5⟩
    simp only[S6] at L
    rw[dif_neg oT]
  ·obtain⟨i,_,hi⟩:=k2 b hb
   have:=r1.mine i b hi
   exact⟨this.2.symm,this.1⟩
 exact h D c g _ U ⟨fun σ κ φ a w' r1 hq=>B σ κ φ a w' r1 hq,fun i σ κ φ a w' r1 hq=>hq.elim,fun σ κ φ a w' r1 hq=>B σ κ φ a w' r1 hq⟩ _ _ _ _ hr
end
mutual
def SV.thaw:SV->Option DV
 | .own m v=>if m.plain then some v else none
 | .agg cs=>match SV.thaws cs with|some l=>some (.agg l)|none=>none
 | .tup cs=>match SV.thaws cs with|some l=>some (.tup l)|none=>none
 | .d v=>some v
 | .nils=>some (.slice [])
 | .lit s n cs=>SV.toDV (.lit s n cs)
 | .ref _ _=>none
 | .vec _=>none
 | .vref _ _ _ _=>none
 | .mp _=>none
 | .clo _ _=>none
def SV.thaws:List SV->Option (List DV)
 |[]=>some []
 |c::cs=>match SV.thaw c,SV.thaws cs with|some x,some xs=>some (x::xs)|_,_=>none
end
mutual
theorem DN {w:World} {M M':Nat->Prop} {κ:Nat->Value} (hM:∀ b,M' b->M b):∀ (x:SV) (u:Value) (F:List Nat) (d:DV),(∀ b∈F,¬ M' b)->aQ w M κ x u F->x.thaw=some d->ba w M' d u
 | .own m v,u,F,d,Q,hr,h=>rA hM Q hr (by simpa only[SV.thaw,SV.frz] using h)
 | .d v,u,F,d,Q,hr,h=>rA hM Q hr (by simpa only[SV.thaw,SV.frz] using h)
 | .nils,u,F,d,Q,hr,h=>rA hM Q hr (by simpa only[SV.thaw,SV.frz] using h)
 | .lit s n cs,u,F,d,Q,hr,h=>rA hM Q hr (by simpa only[SV.thaw,SV.frz] using h)
 | .agg cs,u,F,d,Q,hr,h=>by
  simp only[SV.thaw] at h
  split at h
  ·rename_i l hl
   simp only[SN] at h;subst h
   simp only[aQ] at hr
   obtain⟨vs,h1,h2,E⟩:=hr
   unfold ba
   exact⟨vs,h1,h2,Bb hM cs vs F l Q E hl⟩
  ·cases h
 | .tup cs,u,F,d,Q,hr,h=>by
  simp only[SV.thaw] at h
  split at h
  ·rename_i l hl
   simp only[SN] at h;subst h
   simp only[aQ] at hr
   obtain⟨vs,h1,E⟩:=hr
   unfold ba
   exact⟨vs,h1,Bb hM cs vs F l Q E hl⟩
  ·cases h
 | .ref _ _,_,_,_,_,_,h=>by simp[SV.thaw] at h
 | .vec _,_,_,_,_,_,h=>by simp[SV.thaw] at h
 | .vref _ _ _ _,_,_,_,_,_,h=>by simp[SV.thaw] at h
 | .mp _,_,_,_,_,_,h=>by simp[SV.thaw] at h
 | .clo _ _,_,_,_,_,_,h=>by simp[SV.thaw] at h
theorem Bb {w:World} {M M':Nat->Prop} {κ:Nat->Value} (hM:∀ b,M' b->M b):∀ (cs:List SV) (us:List Value) (F:List Nat) (O:List DV),(∀ b∈F,¬ M' b)->ar w M κ cs us F->SV.thaws cs=some O->aN w M' O us
 |[],us,F,O,Q,hr,h=>by
  simp only[SV.thaws,SN] at h;subst h
  simp only[ar] at hr;unfold aN;exact hr.1
 |c::cs,us,F,O,Q,hr,h=>by
  simp only[SV.thaws] at h
  split at h
  ·rename_i x xs hx T
   simp only[SN] at h;subst h
   simp only[ar] at hr
   obtain⟨u,g,z,I,rfl,rfl,h1,h2⟩:=hr
   unfold aN
   exact⟨u,g,rfl,DN hM c u z x (fun b hb=>Q b (by simp[hb])) h1 hx,Bb hM cs g I xs (fun b hb=>Q b (by simp[hb])) h2 T⟩
  ·cases h
end
theorem bB.pure {P:Program} {args:List DV} {d:DV} (h:bB P f (args.map .d) C outs) (hd:C.thaw=some d):aa P f args d:=by
 refine⟨h.1,fun w M vs hM r0 k=> ?_⟩
 have n:ar w (fun b=>M b\/b∈([]:List Nat)) κ0 (args.map .d) vs []:=ar.of_S _ _ (an.of_d (r0.ext (lA.shrink fun b hb=>by simpa using hb)))
 refine(h.2 w M vs [] (fun b hb=>⟨hM b hb,by simp⟩) oS oS n k (fun _ _ h=>by cases h)).mono ?_
 rintro e w' ⟨v,z,I,rfl,_,h2,_,h4,h5⟩
 refine⟨v,rfl,DN (fun b hb=> .inl hb) C v I d (fun b hb Z=> ?_) h2 hd,h5.below oS⟩
 have:=(h4 b (by simp[hb])).1
 have:=hM b Z
 simp at *
 omega
