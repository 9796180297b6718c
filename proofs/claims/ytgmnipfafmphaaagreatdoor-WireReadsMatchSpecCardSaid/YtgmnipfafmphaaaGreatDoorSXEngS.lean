/-
  My text.
-/
import Derived.Test.YtgmnipfafmphaaaGreatDoorSXEngL
namespace Go.Proofs.YtgmnipfafmphaaaGreatDoor
set_option linter.unusedSimpArgs false
set_option linter.unusedVariables false
open Go.RowKit
inductive p7 (h:Nat->Ch):List SV->List SV->List Nat->Prop
 |nil:p7 h [] [] []
 |any {x:SV} {xs rs:List SV} {ids:List Nat} (hl:p7 h xs rs ids):p7 h (x::xs) (.d .any::rs) ids
 |data {x:SV} {d:DV} {xs rs:List SV} {ids:List Nat} (hx:x.toDV=some d) (hl:p7 h xs rs ids):p7 h (x::xs) (.d d::rs) ids
 |nils {e:Nat} {ms:List bH} {xs rs:List SV} {ids:List Nat} (hl:p7 h xs rs ids):p7 h (.nils::xs) (.own (.sl e ms) (.slice [])::rs) ids
 |own {id:Nat} {m:bH} {d:DV} {ch:Ch} {mk:Nat->SV} {xs rs:List SV} {ids:List Nat} (ho:cP m d=some (ch,mk)) (hs:gm m d) (hh:h id=ch) (hn:id∉ids) (hl:p7 h xs rs ids):p7 h (mk id::xs) (.own m d::rs) (id::ids)
 |agg {cs rs1 xs rs:List SV} {ids1 ids:List Nat} (hc:p7 h cs rs1 ids1) (hn:∀ i∈ids1,i∉ids) (hl:p7 h xs rs ids):p7 h (.agg cs::xs) (.agg rs1::rs) (ids1++ids)
variable {f:FuncId} {fn:Func} {outs:List SV} {res:SV}
section
variable {P:Program} {c:Cx} {σ:St} {κ:Nat->Value} {φ:Nat->List Nat} {a:Act} {w:World}
theorem PS (D:dp c σ κ φ a w) {xs rs:List SV} {ids:List Nat} (h:p7 σ.h xs rs ids):∀ {vs:List Value},av w (own c φ) κ xs vs->
  ∃ F,(∀ M:Nat->Prop,(∀ b,M b->own c φ b)->az w M κ0 rs vs F)/\(∀ b∈F,∃ id∈ids,b∈φ id)/\F.Nodup:=by
 induction h with
 |nil=>intro vs hx;simp only[av] at hx;exact⟨[],fun M _=>by simp[az,hx],by simp,by simp⟩
 |any _ ih=>
  intro vs T
  simp only[av] at T
  obtain⟨u,X,rfl,h1,h2⟩:=T
  obtain⟨F,k1,k2,k3⟩:=ih h2
  refine⟨F,fun M hM=> ?_,k2,k3⟩
  simp only[az]
  exact⟨u,X,[],F,rfl,rfl,by unfold aT al bf;exact⟨rfl,trivial⟩,k1 M hM⟩
 |data hx _ ih=>
  intro vs T
  simp only[av] at T
  obtain⟨u,X,rfl,h1,h2⟩:=T
  obtain⟨F,k1,k2,k3⟩:=ih h2
  refine⟨F,fun M hM=> ?_,k2,k3⟩
  simp only[az]
  exact⟨u,X,[],F,rfl,rfl,by unfold aT al;exact⟨rfl,(al.toDV _ _ _ h1 hx).ext (mG.shrink hM)⟩,k1 M hM⟩
 |nils _ ih=>
  intro vs T
  simp only[av] at T
  obtain⟨u,X,rfl,h1,h2⟩:=T
  obtain⟨F,k1,k2,k3⟩:=ih h2
  refine⟨F,fun M hM=> ?_,k2,k3⟩
  simp only[az]
  refine⟨u,X,[],F,rfl,rfl, ?_,k1 M hM⟩
  simp only[al] at h1
  subst h1
  simp only[aT,f8]
  exact⟨[],[],[],rfl,World.ownsRow_nil w 0 _ _,by simp,by simp,by simp[gW],by simp[gT,vr]⟩
 | @own id m d ch mk _ _ ids ho hs hh hn _ ih=>
  intro vs T
  simp only[av] at T
  obtain⟨u,X,rfl,h1,h2⟩:=T
  obtain⟨F,k1,k2,k3⟩:=ih h2
  have H:=D.chunks id
  rw[hh] at H
  obtain⟨hk,_⟩:=GG (φ:=φ) ho (aT.of_S _ _ h1) H
  have hO:=(rR hs ho hk).1 H
  refine⟨φ id++F,fun M hM=> ?_,fun b hb=> ?_,V6.2 ⟨D.nod id,k3,fun x hx y hy e=> ?_⟩⟩
  ·simp only[az]
   exact⟨u,X,φ id,F,rfl,rfl,by simp only[aT];exact f8.ext (mG.shrink hM) _ _ _ _ (fun _ _=>rfl) hO,k1 M hM⟩
  ·rcases VM.1 hb with hb|hb
   ·exact⟨id,by simp,hb⟩
   ·obtain⟨j,hj,r⟩:=k2 b hb;exact⟨j,by simp[hj],r⟩
  ·subst e
   obtain⟨j,hj,f⟩:=k2 x hy
   exact D.sep id j x (fun e=>hn (e▸hj)) hx f
 | @agg cs rs1 xs rs ids1 ids _ hn _ g ih=>
  intro vs T
  simp only[av] at T
  obtain⟨u,X,rfl,h1,h2⟩:=T
  simp only[al] at h1
  obtain⟨A,rfl,E,h4⟩:=h1
  obtain⟨N,g1,g2,g3⟩:=g h4
  obtain⟨F,k1,k2,k3⟩:=ih h2
  refine⟨N++F,fun M hM=> ?_,fun b hb=> ?_,V6.2 ⟨g3,k3,fun x hx y hy e=> ?_⟩⟩
  ·simp only[az]
   exact⟨_,X,N,F,rfl,rfl,by simp only[aT];exact⟨A,rfl,E,g1 M hM⟩,k1 M hM⟩
  ·rcases VM.1 hb with hb|hb
   ·obtain⟨j,hj,r⟩:=g2 b hb;exact⟨j,by simp[hj],r⟩
   ·obtain⟨j,hj,r⟩:=k2 b hb;exact⟨j,by simp[hj],r⟩
  ·subst e
   obtain⟨i,hi,r6⟩:=g2 x hx
   obtain⟨j,hj,f⟩:=k2 x hy
   exact D.sep i j x (fun e=>hn i hi (e▸hj)) r6 f
def RV.sv (σ:St):RV->Option SV
 | .t n=>some (σ.s n)
 | .cell n sz=>match σ.s n with
  | .d (.ptr cs)=>if sz<=cs.length then some (.d (.agg (cs.take sz))) else none
  | .ref id off=>match σ.h id with
   | .box cs=>if off=0/\sz=cs.length/\SV.noOwns cs=true then some (.agg cs) else none
   |_=>none
  |_=>none
def IQ (σ:St):List RV->Option (List SV)
 |[]=>some []
 |r::rs=>match r.sv σ,IQ σ rs with|some x,some xs=>some (x::xs)|_,_=>none
theorem Ts (D:dp c σ κ φ a w) {r:ResultVar} {q:RV} (Z:oz P c.N r q=true) {x:SV} (L:q.sv σ=some x):
  ∃ v,(match r with| .tmp t=>pure (a.tmps.getD t undef)| .cell a' t=>do loadVar t (<-asAddr (a.tmps.getD a' undef)):Sem Value).run P w= .ok v w/\al w (own c φ) κ x v:=by
 cases r with
 |tmp t=>
  cases q with
  |t n=>
   simp only[oz,Vj,Vz,Vv] at Z
   obtain⟨rfl,hn⟩:=Z
   simp only[RV.sv,Vi] at L
   subst L
   exact⟨_,rfl,D.slots t hn⟩
  |cell _ _=>simp[oz] at Z
 |cell a' t=>
  cases q with
  |t n=>simp[oz] at Z
  |cell n sz=>
   simp only[oz,Vj,Vz,Vv] at Z
   obtain⟨⟨⟨⟨rfl,hn⟩,h2⟩,E⟩,rfl⟩:=Z
   split at h2
   ·rename_i S e
    have hs:=D.slots a' hn
    simp only[RV.sv] at L
    split at L
    ·rename_i cs B
     rw[B] at hs
     simp only[al,bf] at hs
     obtain⟨b,o,hv,r6,h9,v1⟩:=hs
     split at L
     ·rename_i s0
      simp only[Vi] at L;subst L
      obtain⟨vs,hl,r1,r0⟩:=v1.values
      have I:=hl.length
      have:=ov (P:=P) (w:=w) (b:=b) (o:=o) (vs:=vs.take (P.cellsOf t)) e h2 E oT (fun j v hj=>r0 j v (by
       rw[WE] at hj;split at hj
       ·exact hj
       ·cases hj))
      refine⟨.agg (vs.take (P.cellsOf t)).toArray,by simp[hv,asAddr,this], ?_⟩
      simp only[al,bf]
      exact⟨_,rfl,fun z hz=>r1 z (VU hz),hl.take _⟩
     ·cases L
    ·rename_i id off B
     rw[B] at hs
     simp only[al] at hs
     obtain⟨b,r8,hv⟩:=hs
     split at L
     ·rename_i cs s
      split at L
      ·rename_i g
       obtain⟨rfl,F,r2⟩:=g
       simp only[Vi] at L;subst L
       have H:=D.chunks id
       rw[s] at H
       obtain⟨b',T,vs,G,r5,u,u8,hl,r4⟩:=H
       rw[r8] at r5;simp at r5;subst r5
       have I:=hl.length
       have:=ov (P:=P) (w:=w) (b:=b) (o:=0) (vs:=vs) e h2 E oM (fun j v hj=>by rw[VD,cell_of_row w b j _ T _ u];simpa using hj)
       refine⟨.agg vs.toArray,by simp[hv,asAddr,this], ?_⟩
       simp only[al]
       exact⟨_,rfl,u8,(az.to_S _ _ _ r2 hl).1⟩
      ·cases L
     ·cases L
    ·cases L
   ·cases h2
theorem JE (D:dp c σ κ φ a w):∀ {rs:List ResultVar} {qs:List RV},ke P c.N rs qs=true->∀ {xs:List SV},IQ σ qs=some xs->
  ∃ vs:List Value,(rs.mapM fun r=>(match r with| .tmp t=>pure (a.tmps.getD t undef)| .cell a' t=>do loadVar t (<-asAddr (a.tmps.getD a' undef)):Sem Value)).run P w= .ok vs w/\av w (own c φ) κ xs vs
 |[],[],_,xs,h=>by
  simp only[IQ,Vi] at h;subst h
  exact⟨[],by simp,by unfold av;rfl⟩
 |r::rs,q::qs,Z,xs,h=>by
  simp only[ke,Vj] at Z
  simp only[IQ] at h
  split at h
  ·rename_i y ys hx T
   simp only[Vi] at h;subst h
   obtain⟨v,hv,V⟩:=Ts D Z.1 hx
   obtain⟨vs,e,b⟩:=JE D Z.2 T
   refine⟨v::vs, ?_,by unfold av;exact⟨v,vs,rfl,V,b⟩⟩
   simp only[List.mapM_cons,Sem.run_bind,Sem.run_pure]
   rw[hv]
   simp only[Result.andThen_ok,e]
  ·cases h
 |[],_::_,Z,_,_=>by simp[ke] at Z
 |_::_,[],Z,_,_=>by simp[ke] at Z
theorem Bu {vs:List Value} (e:(fn.results.toList.mapM fun r=>(match r with| .tmp t=>pure (a.tmps.getD t undef)| .cell a' t=>do loadVar t (<-asAddr (a.tmps.getD a' undef)):Sem Value)).run P w= .ok vs w):
  (results fn a.tmps).run P w= .ok (if h:vs.toArray.size=1 then vs.toArray[0] else .tuple vs.toArray) w:=by
 have s3:∀ g:ResultVar->Sem Value,(fn.results.mapM g).run P w=((fn.results.toList.mapM g).run P w).andThen fun l w'=> .ok l.toArray w':=fun g=>by
  rw[Array.mapM_eq_mapM_toList]
  simp
 unfold results
 simp only[Sem.run_bind]
 rw[s3]
 exact Wf (fun r:Result (List Value)=>(r.andThen fun l w'=>Result.ok l.toArray w').andThen fun(a:Array Value) w'=>Sem.run P (pure (if h:a.size=1 then a[0] else Value.tuple a)) w') e
end
def mY:List SV->SV
 |[x]=>x
 |l=> .tup l
def xA (i:Nat):SV->SV
 | .own m v=>match cP m v with|some (_,mk)=>mk i|none=> .d .any
 |x=>x
def EJ:SV->Ch
 | .own m v=>match cP m v with|some (ch,_)=>ch|none=> .dead
 |_=> .dead
def Ds (N:Nat) (args:List SV):Nat->SV:=fun j=>if j<N then(match args[j]? with|some x=>xA j x|none=> .d .any) else match args[j - N]? with|some x=>xA (j - N) x|none=> .d .any
def EK (args:List SV):Nat->Ch:=fun i=>match args[i]? with|some x=>EJ x|none=> .dead
def jD (N:Nat) (σ:St):Nat->List SV
 |0=>[]
 |n+1=>jD N σ n++[σ.s (N+n)]
def H_:SV->Bool
 | .own m v=>(cP m v).isSome
 |x=>x.noOwn&&x.closed
def BO (N n:Nat) (qs:List RV) (res:SV) (outs:List SV):AX->St->Prop
 | .exit _,_=>False
 |_,σ=>∃ O,bt σ O/\∃ xs rs ids,IQ O qs=some xs/\res=mY rs/\rs.length=xs.length/\p7 O.h (jD N O n++xs) (outs++rs) ids
section
variable {P:Program}
theorem Dt {c:Cx} {σ:St} {κ:Nat->Value} {φ:Nat->List Nat} {a:Act} {w:World} (D:dp c σ κ φ a w):∀ n,n<=c.gs.length->av w (own c φ) κ (jD c.N σ n) (c.gs.take n)
 |0,_=>by simp[jD,av]
 |n+1,h=>by
  have hn:c.gs[n]?=some c.gs[n]:=Vu oM
  rw[Xz,hn]
  exact(Dt D n oM).append (av.one (D.ghost n _ hn))
theorem Du {w:World} {M:Nat->Prop}:∀ {args:List SV} {vs:List Value} {F:List Nat},az w M κ0 args vs F->∃ n:List (List Nat),n.flatten=F/\n.length=args.length/\∀ (i:Nat) x v G,args[i]?=some x->vs[i]?=some v->n[i]?=some G->aT w M κ0 x v G
 |[],vs,F,h=>by simp only[az] at h;exact⟨[],by simp[h],rfl,by simp⟩
 |x::args,vs,F,h=>by
  simp only[az] at h
  obtain⟨u,X,N,R,rfl,rfl,h1,h2⟩:=h
  obtain⟨n,k1,k2,k3⟩:=Du h2
  refine⟨N::n,by simp[k1],by simp[k2],fun i x' v G hx hv hG=> ?_⟩
  cases i with
  |zero=>simp at hx hv hG;subst hx hv hG;exact h1
  |succ i=>exact k3 i x' v G (by simpa using hx) (by simpa using hv) (by simpa using hG)
theorem Ia {n:List (List Nat)} (h:n.flatten.Nodup):(∀ G∈n,G.Nodup)/\∀ (i j:Nat) G H b,i≠j->n[i]?=some G->n[j]?=some H->b∈G->b∉H:=by
 induction n with
 |nil=>simp
 |cons F n ih=>
  simp only[V4] at h
  obtain⟨o,V,t⟩:=V6.1 h
  obtain⟨k1,k2⟩:=ih V
  refine⟨by simpa using⟨o,k1⟩,fun i j G H b r0 hi hj hb d=> ?_⟩
  have e:∀ (k:Nat) G,n[k]?=some G->∀ b∈G,b∈n.flatten:=fun k G hk b hb=>List.mem_flatten.2 ⟨G,Vq hk,hb⟩
  cases i with
  |zero=>
   cases j with
   |zero=>exact r0 rfl
   |succ j=>simp at hi hj;subst hi;exact t b hb b (e j H hj b d) rfl
  |succ i=>
   cases j with
   |zero=>simp at hi hj;subst hj;exact t b d b (e i G hi b hb) rfl
   |succ j=>exact k2 i j G H b oM (by simpa using hi) (by simpa using hj) hb d
theorem yv {x:SC} {qs:List RV} {args:List SV} (C:P.funcs[f]?=some fn) (o:fits P f fn x qs args.length=true) (r5:args.all H_=true) (t:outs.length=args.length) (h:AW P x (BO fn.ntmps args.length qs res outs) ⟨Ds fn.ntmps args,EK args⟩):bw P f args res outs:=by
 obtain⟨p,h6,⟨g,hb,s3⟩,r8,L⟩:=Fm o
 refine⟨h6,fun w M vs F hM B r3 V k y=> ?_⟩
 have I:=V.length
 obtain⟨n,Y,s8,s9⟩:=Du V
 obtain⟨Q,u0⟩:=Ia (by rw[Y];exact r3)
 refine calls_of_wp C hb ?_
 let c:Cx:=⟨w.heap.size,w,M,(· ∈F),fn.ntmps,vs,k,y,Vs _⟩
 let κ:Nat->Value:=fun i=>match args[i]? with|some (.own _ _)=>vs[i]?.getD (.pointer none)|_=> .pointer none
 let φ:Nat->List Nat:=fun i=>n[i]?.getD []
 have A:∀ i b,b∈φ i->b∈F:=fun i b hb=>by
  simp only[φ] at hb
  cases hi:n[i]? with
  |none=>simp[hi] at hb
  |some G=>simp[hi] at hb;rw[<-Y];exact List.mem_flatten.2 ⟨G,Vq hi,hb⟩
 have h9:∀ b,own c φ b↔(M b\/b∈F):=fun b=>by
  constructor
  ·rintro(h|⟨i,h⟩)
   ·exact .inl h
   ·exact .inr (A i b h)
  ·rintro(h|h)
   ·exact .inl h
   ·rw[<-Y] at h
    obtain⟨G,hG,K⟩:=List.mem_flatten.1 h
    obtain⟨i,hi,rfl⟩:=XG hG
    exact .inr ⟨i,by simp only[φ,Vu hi];exact K⟩
 have q:own c φ=fun b=>M b\/b∈F:=funext fun b=>propext (h9 b)
 have s:∀ i x,args[i]?=some x->∃ v,vs[i]?=some v/\al w (own c φ) κ (xA i x) v/\lV w (own c φ) κ i (EJ x) (φ i)/\(κ i).oneCell'=true:=fun i x hx=>by
  have hi:i<args.length:=(Vr.1 hx).1
  have hv:vs[i]?=some vs[i]:=Vu oM
  have hG:n[i]?=some n[i]:=Vu oM
  have D:=s9 i x _ _ hx hv hG
  have s5:φ i=n[i]:=by simp only[φ,hG,Wi]
  have S:=VN.1 r5 x (Vq hx)
  refine⟨_,hv, ?_⟩
  rw[q,s5]
  have plain:(∀ m d,x≠ .own m d)->al w (fun b=>M b\/b∈F) κ (xA i x) vs[i]/\lV w (fun b=>M b\/b∈F) κ i (EJ x) n[i]/\(κ i).oneCell'=true:=fun U=>by
   have r2:x.noOwn=true/\x.closed=true:=by
    cases x<;>simp_all [H_]
   obtain⟨h1,h2⟩:=aT.to_S _ _ _ r2.1 D
   have e1:xA i x=x:=by cases x<;>simp_all [xA]
   have e2:EJ x= .dead:=by cases x<;>simp_all [EJ]
   rw[e1,e2]
   refine⟨h1.kappa _ _ r2.2,h2, ?_⟩
   simp only[κ,hx]
   cases x<;>first|rfl|simp_all
  cases x with
  |own m d=>
   simp only[H_] at S
   obtain⟨⟨ch,mk⟩,ho⟩:=Wo.1 S
   simp only[aT] at D
   obtain⟨r1,r9⟩:=Db D ho
   have l:κ i=vs[i]:=by simp only[κ,hx,hv,Wi]
   simp only[xA,EJ,ho]
   exact⟨r9 κ i l,(rR D.shape ho l).2 D,by rw[l];exact r1⟩
  |_=>exact plain oS
 have D:dp c ⟨Ds fn.ntmps args,EK args⟩ κ φ {tmps:=vs.toArray++Array.replicate (fn.ntmps - vs.toArray.size) undef,defers:=[]} w:=by
  refine⟨Fa.refl _ _ _,Vs _,fun b hb=>⟨(hM b hb).1,(hM b hb).2⟩, ?_,rfl,fun i=> ?_,fun i hi=> ?_,fun i v hv=> ?_,fun i=> ?_,fun i b hb=>⟨B b (A i b hb),.inr (A i b hb)⟩,fun i=> ?_,fun i j b r0 hi hj=> ?_⟩
  ·show _=fn.ntmps
   simp;omega
  ·cases hx:args[i]? with
   |none=>simp only[κ,hx];rfl
   |some x=>obtain⟨_,_,_,_,h4⟩:=s i x hx;exact h4
  ·simp only[Ds]
   have h5:i<fn.ntmps:=hi
   simp only[h5,VW]
   cases hx:args[i]? with
   |none=>simp[al,bf]
   |some x=>
    obtain⟨v,hv,h2,_⟩:=s i x hx
    have h5:i<vs.length:=(Vr.1 hv).1
    rw[V2,Array.getElem?_append_left (by simpa using h5)]
    simpa[hv] using h2
  ·show al w (own c φ) κ (Ds fn.ntmps args (fn.ntmps+i)) v
   have e:¬ (fn.ntmps+i<fn.ntmps):=by omega
   simp only[Ds,e,VQ,Nat.add_sub_cancel_left]
   cases hx:args[i]? with
   |none=>simp[al,bf]
   |some x=>
    obtain⟨v',r7,h2,_⟩:=s i x hx
    have:vs[i]?=some v:=hv
    rw[this] at r7;simp at r7;subst r7;exact h2
  ·show lV w (own c φ) κ i (EK args i) (φ i)
   simp only[EK]
   cases hx:args[i]? with
   |none=>
    have:n[i]?=none:=by rw[Xl,s8];exact Xl.1 hx
    simp only[lV,φ,this,W8]
   |some x=>obtain⟨_,_,_,E,_⟩:=s i x hx;exact E
  ·simp only[φ]
   cases hi:n[i]? with
   |none=>simp
   |some G=>simp;exact Q G (Vq hi)
  ·simp only[φ] at hi hj
   cases s0:n[i]? with
   |none=>simp[s0] at hi
   |some G=>
    cases s4:n[j]? with
    |none=>simp[s4] at hj
    |some H=>
     simp[s0] at hi;simp[s4] at hj
     exact u0 i j G H b r0 s0 s4 hi hj
 have fin:∀ σ κ φ a w',dp c σ κ φ a w'->(∃ O,bt σ O/\∃ xs rs ids,IQ O qs=some xs/\res=mY rs/\rs.length=xs.length/\p7 O.h (jD fn.ntmps O args.length++xs) (outs++rs) ids)->
   a.defers=[]/\∃ v,(results fn a.tmps).run P w'= .ok v w'/\(∃ v' N R,Ending.returned v= .returned v'/\az w' (fun b=>M b\/b∈N++R) κ0 outs vs N/\aT w' (fun b=>M b\/b∈N++R) κ0 res v' R/\(N++R).Nodup/\
   (∀ b∈N++R,(b∈F\/w.heap.size<=b)/\b<w'.heap.size)/\Fa w.heap.size (· ∈F) w w'):=by
  rintro σ κ φ a w' h8 ⟨O,r6,xs,rs,ids,r4,rfl,Z,s6⟩
  obtain⟨W,h7,h8⟩:=r6 _ _ _ _ _ h8
  obtain⟨X,h0,T⟩:=JE h8 r8 r4
  have z:=Dt h8 args.length (by show args.length<=vs.length;omega)
  rw[show c.gs.take args.length=vs from VO (by show vs.length<=args.length;omega)] at z
  obtain⟨F',k1,k2,k3⟩:=PS h8 s6 (z.append T)
  have s1:∀ b,(M b\/b∈F')->own c h7 b:=fun b hb=>by
   rcases hb with hb|hb
   ·exact .inl hb
   ·obtain⟨i,_,hi⟩:=k2 b hb;exact .inr ⟨i,hi⟩
  obtain⟨N,R,s7,k4,k5⟩:=(k1 (fun b=>M b\/b∈F') s1).split
  rw[t] at k4 k5
  rw[show args.length=vs.length by omega,List.take_left] at k4
  rw[show args.length=vs.length by omega,Xm] at k5
  subst s7
  refine⟨h8.defers,_,Bu h0,_,N,R,rfl,k4, ?_,k3,fun b hb=> ?_,h8.chg⟩
  ·have s2:=T.length
   match rs,Z,k5 with
   |[r],Z,k5=>
    have:X.length=1:=by simp at Z;omega
    match X,this,k5 with
    |[u],_,k5=>
     simp only[az,V9] at k5
     obtain⟨_,_,G1,G2,⟨rfl,rfl⟩,hG,g1,_,rfl⟩:=k5
     rw[VL] at hG
     subst hG
     simpa[mY] using g1
   |[],Z,k5=>
    have:X=[]:=Vx.1 (by simp at Z;omega)
    subst this
    simp only[mY,aT]
    exact⟨[],by simp,k5⟩
   |r::J::rs,Z,k5=>
    simp only[mY,aT]
    refine⟨X, ?_,k5⟩
    simp only[Vk] at Z
    rw[dif_neg oT]
  ·obtain⟨i,_,hi⟩:=k2 b hb
   have:=h8.mine i b hi
   exact⟨this.2.symm,this.1⟩
 exact h p c g _ s3 ⟨fun σ κ φ a w' h8 hq=>fin σ κ φ a w' h8 hq,fun i σ κ φ a w' h8 hq=>hq.elim,fun σ κ φ a w' h8 hq=>fin σ κ φ a w' h8 hq⟩ _ _ _ _ D
end
mutual
def SV.thaw:SV->Option DV
 | .own m v=>if m.plain then some v else none
 | .agg cs=>match SV.thaws cs with|some l=>some (.agg l)|none=>none
 | .tup cs=>match SV.thaws cs with|some l=>some (.tup l)|none=>none
 | .d v=>some v
 | .nils=>some (.slice [])
 | .lit s n cs=>SV.toDV (.lit s n cs)
 | .ref _ _=>none
 | .vec _=>none
 | .vref _ _ _ _=>none
 | .mp _=>none
def SV.thaws:List SV->Option (List DV)
 |[]=>some []
 |c::cs=>match SV.thaw c,SV.thaws cs with|some x,some xs=>some (x::xs)|_,_=>none
end
mutual
theorem Dv {w:World} {M M':Nat->Prop} {κ:Nat->Value} (hM:∀ b,M' b->M b):∀ (x:SV) (u:Value) (F:List Nat) (d:DV),(∀ b∈F,¬ M' b)->aT w M κ x u F->x.thaw=some d->bf w M' d u
 | .own m v,u,F,d,B,D,h=>rg hM B D (by simpa only[SV.thaw,SV.frz] using h)
 | .d v,u,F,d,B,D,h=>rg hM B D (by simpa only[SV.thaw,SV.frz] using h)
 | .nils,u,F,d,B,D,h=>rg hM B D (by simpa only[SV.thaw,SV.frz] using h)
 | .lit s n cs,u,F,d,B,D,h=>rg hM B D (by simpa only[SV.thaw,SV.frz] using h)
 | .agg cs,u,F,d,B,D,h=>by
  simp only[SV.thaw] at h
  split at h
  ·rename_i l hl
   simp only[Vi] at h;subst h
   simp only[aT] at D
   obtain⟨vs,h1,h2,E⟩:=D
   unfold bf
   exact⟨vs,h1,h2,Ap hM cs vs F l B E hl⟩
  ·cases h
 | .tup cs,u,F,d,B,D,h=>by
  simp only[SV.thaw] at h
  split at h
  ·rename_i l hl
   simp only[Vi] at h;subst h
   simp only[aT] at D
   obtain⟨vs,h1,E⟩:=D
   unfold bf
   exact⟨vs,h1,Ap hM cs vs F l B E hl⟩
  ·cases h
 | .ref _ _,_,_,_,_,_,h=>by simp[SV.thaw] at h
 | .vec _,_,_,_,_,_,h=>by simp[SV.thaw] at h
 | .vref _ _ _ _,_,_,_,_,_,h=>by simp[SV.thaw] at h
 | .mp _,_,_,_,_,_,h=>by simp[SV.thaw] at h
theorem Ap {w:World} {M M':Nat->Prop} {κ:Nat->Value} (hM:∀ b,M' b->M b):∀ (cs:List SV) (X:List Value) (F:List Nat) (J:List DV),(∀ b∈F,¬ M' b)->az w M κ cs X F->SV.thaws cs=some J->aM w M' J X
 |[],X,F,J,B,D,h=>by
  simp only[SV.thaws,Vi] at h;subst h
  simp only[az] at D;unfold aM;exact D.1
 |c::cs,X,F,J,B,D,h=>by
  simp only[SV.thaws] at h
  split at h
  ·rename_i x xs hx T
   simp only[Vi] at h;subst h
   simp only[az] at D
   obtain⟨u,g,N,R,rfl,rfl,h1,h2⟩:=D
   unfold aM
   exact⟨u,g,rfl,Dv hM c u N x (fun b hb=>B b (by simp[hb])) h1 hx,Ap hM cs g R xs (fun b hb=>B b (by simp[hb])) h2 T⟩
  ·cases h
end
theorem bw.pure {P:Program} {args:List DV} {d:DV} (h:bw P f (args.map .d) res outs) (hd:res.thaw=some d):ac P f args d:=by
 refine⟨h.1,fun w M vs hM V k=> ?_⟩
 have n:az w (fun b=>M b\/b∈([]:List Nat)) κ0 (args.map .d) vs []:=az.of_S _ _ (av.of_d (V.ext (mG.shrink fun b hb=>by simpa using hb)))
 refine(h.2 w M vs [] (fun b hb=>⟨hM b hb,by simp⟩) oS oS n k (fun _ _ h=>by cases h)).mono ?_
 rintro e w' ⟨v,N,R,rfl,_,h2,_,h4,h5⟩
 refine⟨v,rfl,Dv (fun b hb=> .inl hb) res v R d (fun b hb Z=> ?_) h2 hd,h5.below oS⟩
 have:=(h4 b (by simp[hb])).1
 have:=hM b Z
 simp at *
 omega
