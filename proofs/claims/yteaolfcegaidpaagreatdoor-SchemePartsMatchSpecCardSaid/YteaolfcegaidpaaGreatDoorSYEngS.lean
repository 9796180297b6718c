/-
  My text.
-/
import Derived.Test.YteaolfcegaidpaaGreatDoorSYEngL
namespace Go.Proofs.YteaolfcegaidpaaGreatDoor
set_option linter.unusedSimpArgs false
set_option linter.unusedVariables false
open Go.RowKit
inductive tp (h:Nat->Ch):List SV->List SV->List Nat->Prop
 |nil:tp h [] [] []
 |any {x:SV} {xs rs:List SV} {ids:List Nat} (hl:tp h xs rs ids):tp h (x::xs) (.d .any::rs) ids
 |data {x:SV} {d:DV} {xs rs:List SV} {ids:List Nat} (hx:x.toDV=some d) (hl:tp h xs rs ids):tp h (x::xs) (.d d::rs) ids
 |nils {e:Nat} {ms:List cB} {xs rs:List SV} {ids:List Nat} (hl:tp h xs rs ids):tp h (.nils::xs) (.own (.sl e ms) (.slice [])::rs) ids
 |own {id:Nat} {m:cB} {d:DV} {ch:Ch} {mk:Nat->SV} {xs rs:List SV} {ids:List Nat} (ho:cY m d=some (ch,mk)) (hs:eP m d) (hh:h id=ch) (hn:id∉ids) (hl:tp h xs rs ids):tp h (mk id::xs) (.own m d::rs) (id::ids)
 |agg {cs rs1 xs rs:List SV} {ids1 ids:List Nat} (hc:tp h cs rs1 ids1) (hn:∀ i∈ids1,i∉ids) (hl:tp h xs rs ids):tp h (.agg cs::xs) (.agg rs1::rs) (ids1++ids)
section
variable {P:Program} {c:Cx} {σ:St} {κ:Nat->Value} {φ:Nat->List Nat} {a:Act} {w:World}
theorem Lh (hr:cE c σ κ φ a w) {xs rs:List SV} {ids:List Nat} (h:tp σ.h xs rs ids):∀ {vs:List Value},ai w (own c φ) κ xs vs->
  ∃ F,(∀ M:Nat->Prop,(∀ b,M b->own c φ b)->am w M κ0 rs vs F)/\(∀ b∈F,∃ id∈ids,b∈φ id)/\F.Nodup:=by
 induction h with
 |nil=>intro vs hx;simp only[ai] at hx;exact⟨[],fun M _=>by simp[am,hx],by simp,by simp⟩
 |any _ ih=>
  intro vs hxs
  simp only[ai] at hxs
  obtain⟨u,us,rfl,h1,h2⟩:=hxs
  obtain⟨F,k1,k2,k3⟩:=ih h2
  refine⟨F,fun M hM=> ?_,k2,k3⟩
  simp only[am]
  exact⟨u,us,[],F,rfl,rfl,by unfold aK ae aQ;exact⟨rfl,trivial⟩,k1 M hM⟩
 |data hx _ ih=>
  intro vs hxs
  simp only[ai] at hxs
  obtain⟨u,us,rfl,h1,h2⟩:=hxs
  obtain⟨F,k1,k2,k3⟩:=ih h2
  refine⟨F,fun M hM=> ?_,k2,k3⟩
  simp only[am]
  exact⟨u,us,[],F,rfl,rfl,by unfold aK ae;exact⟨rfl,(ae.toDV _ _ _ h1 hx).ext (lL.shrink hM)⟩,k1 M hM⟩
 |nils _ ih=>
  intro vs hxs
  simp only[ai] at hxs
  obtain⟨u,us,rfl,h1,h2⟩:=hxs
  obtain⟨F,k1,k2,k3⟩:=ih h2
  refine⟨F,fun M hM=> ?_,k2,k3⟩
  simp only[am]
  refine⟨u,us,[],F,rfl,rfl, ?_,k1 M hM⟩
  simp only[ae] at h1
  subst h1
  simp only[aK,gl]
  exact⟨[],[],[],rfl,World.ownsRow_nil w 0 _ _,by simp,by simp,by simp[jo],by simp[kh,wX]⟩
 | @own id m d ch mk _ _ ids ho hs hh hn _ ih=>
  intro vs hxs
  simp only[ai] at hxs
  obtain⟨u,us,rfl,h1,h2⟩:=hxs
  obtain⟨F,k1,k2,k3⟩:=ih h2
  have hch:=hr.chunks id
  rw[hh] at hch
  obtain⟨hk,_⟩:=D1 (φ:=φ) ho (aK.of_S _ _ h1) hch
  have hO:=(qB hs ho hk).1 hch
  refine⟨φ id++F,fun M hM=> ?_,fun b hb=> ?_,Pc.2 ⟨hr.nod id,k3,fun x hx y hy e=> ?_⟩⟩
  ·simp only[am]
   exact⟨u,us,φ id,F,rfl,rfl,by simp only[aK];exact gl.ext (lL.shrink hM) _ _ _ _ (fun _ _=>rfl) hO,k1 M hM⟩
  ·rcases OV.1 hb with hb|hb
   ·exact⟨id,by simp,hb⟩
   ·obtain⟨j,hj,hbj⟩:=k2 b hb;exact⟨j,by simp[hj],hbj⟩
  ·subst e
   obtain⟨j,hj,hxj⟩:=k2 x hy
   exact hr.sep id j x (fun e=>hn (e▸hj)) hx hxj
 | @agg cs rs1 xs rs ids1 ids _ hn _ ih1 ih=>
  intro vs hxs
  simp only[ai] at hxs
  obtain⟨u,us,rfl,h1,h2⟩:=hxs
  simp only[ae] at h1
  obtain⟨vs',rfl,h3,h4⟩:=h1
  obtain⟨F1,g1,g2,g3⟩:=ih1 h4
  obtain⟨F,k1,k2,k3⟩:=ih h2
  refine⟨F1++F,fun M hM=> ?_,fun b hb=> ?_,Pc.2 ⟨g3,k3,fun x hx y hy e=> ?_⟩⟩
  ·simp only[am]
   exact⟨_,us,F1,F,rfl,rfl,by simp only[aK];exact⟨vs',rfl,h3,g1 M hM⟩,k1 M hM⟩
  ·rcases OV.1 hb with hb|hb
   ·obtain⟨j,hj,hbj⟩:=g2 b hb;exact⟨j,by simp[hj],hbj⟩
   ·obtain⟨j,hj,hbj⟩:=k2 b hb;exact⟨j,by simp[hj],hbj⟩
  ·subst e
   obtain⟨i,hi,hxi⟩:=g2 x hx
   obtain⟨j,hj,hxj⟩:=k2 x hy
   exact hr.sep i j x (fun e=>hn i hi (e▸hj)) hxi hxj
def RV.sv (σ:St):RV->Option SV
 | .t n=>some (σ.s n)
 | .cell n sz=>match σ.s n with
  | .d (.ptr cs)=>if sz<=cs.length then some (.d (.agg (cs.take sz))) else none
  | .ref id off=>match σ.h id with
   | .box cs=>if off=0/\sz=cs.length/\SV.noOwns cs=true then some (.agg cs) else none
   |_=>none
  |_=>none
def FQ (σ:St):List RV->Option (List SV)
 |[]=>some []
 |r::rs=>match r.sv σ,FQ σ rs with|some x,some xs=>some (x::xs)|_,_=>none
theorem NB (hr:cE c σ κ φ a w) {r:ResultVar} {q:RV} (hm:nu P c.N r q=true) {x:SV} (hg:q.sv σ=some x):
  ∃ v,(match r with| .tmp t=>pure (a.tmps.getD t undef)| .cell a' t=>do loadVar t (<-asAddr (a.tmps.getD a' undef)):Sem Value).run P w= .ok v w/\ae w (own c φ) κ x v:=by
 cases r with
 |tmp t=>
  cases q with
  |t n=>
   simp only[nu,Oz,OI,OC] at hm
   obtain⟨rfl,hn⟩:=hm
   simp only[RV.sv,Oy] at hg
   subst hg
   exact⟨_,rfl,hr.slots t hn⟩
  |cell _ _=>simp[nu] at hm
 |cell a' t=>
  cases q with
  |t n=>simp[nu] at hm
  |cell n sz=>
   simp only[nu,Oz,OI,OC] at hm
   obtain⟨⟨⟨⟨rfl,hn⟩,h2⟩,h3⟩,rfl⟩:=hm
   split at h2
   ·rename_i td htd
    have hs:=hr.slots a' hn
    simp only[RV.sv] at hg
    split at hg
    ·rename_i cs heq
     rw[heq] at hs
     simp only[ae,aQ] at hs
     obtain⟨b,o,hv,hm',hlt,hat⟩:=hs
     split at hg
     ·rename_i hle
      simp only[Oy] at hg;subst hg
      obtain⟨vs,hl,hone,hcell⟩:=hat.values
      have hlen:=hl.length
      have:=np (P:=P) (w:=w) (b:=b) (o:=o) (vs:=vs.take (P.cellsOf t)) htd h2 h3 oT (fun j v hj=>hcell j v (by
       rw[PJ] at hj;split at hj
       ·exact hj
       ·cases hj))
      refine⟨.agg (vs.take (P.cellsOf t)).toArray,by simp[hv,asAddr,this], ?_⟩
      simp only[ae,aQ]
      exact⟨_,rfl,fun z hz=>hone z (O0 hz),hl.take _⟩
     ·cases hg
    ·rename_i id off heq
     rw[heq] at hs
     simp only[ae] at hs
     obtain⟨b,hkb,hv⟩:=hs
     split at hg
     ·rename_i cs hbox
      split at hg
      ·rename_i hoff
       obtain⟨rfl,hsz,hno⟩:=hoff
       simp only[Oy] at hg;subst hg
       have hch:=hr.chunks id
       rw[hbox] at hch
       obtain⟨b',T,vs,G,hk',hheap,h1',hl,hφ⟩:=hch
       rw[hkb] at hk';simp at hk';subst hk'
       have hlen:=hl.length
       have:=np (P:=P) (w:=w) (b:=b) (o:=0) (vs:=vs) htd h2 h3 oM (fun j v hj=>by rw[Ps,cell_of_row w b j _ T _ hheap];simpa using hj)
       refine⟨.agg vs.toArray,by simp[hv,asAddr,this], ?_⟩
       simp only[ae]
       exact⟨_,rfl,h1',(am.to_S _ _ _ hno hl).1⟩
      ·cases hg
     ·cases hg
    ·cases hg
   ·cases h2
theorem Gw (hr:cE c σ κ φ a w):∀ {rs:List ResultVar} {qs:List RV},g9 P c.N rs qs=true->∀ {xs:List SV},FQ σ qs=some xs->
  ∃ vs:List Value,(rs.mapM fun r=>(match r with| .tmp t=>pure (a.tmps.getD t undef)| .cell a' t=>do loadVar t (<-asAddr (a.tmps.getD a' undef)):Sem Value)).run P w= .ok vs w/\ai w (own c φ) κ xs vs
 |[],[],_,xs,h=>by
  simp only[FQ,Oy] at h;subst h
  exact⟨[],by simp,by unfold ai;rfl⟩
 |r::rs,q::qs,hm,xs,h=>by
  simp only[g9,Oz] at hm
  simp only[FQ] at h
  split at h
  ·rename_i y ys hx hxs
   simp only[Oy] at h;subst h
   obtain⟨v,hv,hrep⟩:=NB hr hm.1 hx
   obtain⟨vs,hvs,hreps⟩:=Gw hr hm.2 hxs
   refine⟨v::vs, ?_,by unfold ai;exact⟨v,vs,rfl,hrep,hreps⟩⟩
   simp only[List.mapM_cons,Sem.run_bind,Sem.run_pure]
   rw[hv]
   simp only[Result.andThen_ok,hvs]
  ·cases h
 |[],_::_,hm,_,_=>by simp[g9] at hm
 |_::_,[],hm,_,_=>by simp[g9] at hm
theorem Af {fn:Func} {vs:List Value} (hvs:(fn.results.toList.mapM fun r=>(match r with| .tmp t=>pure (a.tmps.getD t undef)| .cell a' t=>do loadVar t (<-asAddr (a.tmps.getD a' undef)):Sem Value)).run P w= .ok vs w):
  (results fn a.tmps).run P w= .ok (if h:vs.toArray.size=1 then vs.toArray[0] else .tuple vs.toArray) w:=by
 have hmap:∀ g:ResultVar->Sem Value,(fn.results.mapM g).run P w=((fn.results.toList.mapM g).run P w).andThen fun l w'=> .ok l.toArray w':=fun g=>by
  rw[Array.mapM_eq_mapM_toList]
  simp
 unfold results
 simp only[Sem.run_bind]
 rw[hmap]
 exact congrArg (fun r:Result (List Value)=>(r.andThen fun l w'=>Result.ok l.toArray w').andThen fun(a:Array Value) w'=>Sem.run P (pure (if h:a.size=1 then a[0] else Value.tuple a)) w') hvs
end
def lN:List SV->SV
 |[x]=>x
 |l=> .tup l
def ym (i:Nat):SV->SV
 | .own m v=>match cY m v with|some (_,mk)=>mk i|none=> .d .any
 |x=>x
def D_:SV->Ch
 | .own m v=>match cY m v with|some (ch,_)=>ch|none=> .dead
 |_=> .dead
def Ea (N:Nat) (args:List SV):Nat->SV:=fun j=>if j<N then(match args[j]? with|some x=>ym j x|none=> .d .any) else match args[j - N]? with|some x=>ym (j - N) x|none=> .d .any
def Fg (args:List SV):Nat->Ch:=fun i=>match args[i]? with|some x=>D_ x|none=> .dead
def io (N:Nat) (σ:St):Nat->List SV
 |0=>[]
 |n+1=>io N σ n++[σ.s (N+n)]
def Fh:SV->Bool
 | .own m v=>(cY m v).isSome
 |x=>x.noOwn&&x.closed
def BK (N n:Nat) (qs:List RV) (res:SV) (outs:List SV):AX->St->Prop
 | .exit _,_=>False
 |_,σ=>∃ σ',dB σ σ'/\∃ xs rs ids,FQ σ' qs=some xs/\res=lN rs/\rs.length=xs.length/\tp σ'.h (io N σ' n++xs) (outs++rs) ids
section
variable {P:Program}
theorem BL {c:Cx} {σ:St} {κ:Nat->Value} {φ:Nat->List Nat} {a:Act} {w:World} (hr:cE c σ κ φ a w):∀ n,n<=c.gs.length->ai w (own c φ) κ (io c.N σ n) (c.gs.take n)
 |0,_=>by simp[io,ai]
 |n+1,h=>by
  have hn:c.gs[n]?=some c.gs[n]:=OJ oM
  rw[List.take_add_one,hn]
  exact(BL hr n oM).append (ai.one (hr.ghost n _ hn))
theorem BM {w:World} {M:Nat->Prop}:∀ {args:List SV} {vs:List Value} {F:List Nat},am w M κ0 args vs F->∃ Fs:List (List Nat),Fs.flatten=F/\Fs.length=args.length/\∀ (i:Nat) x v G,args[i]?=some x->vs[i]?=some v->Fs[i]?=some G->aK w M κ0 x v G
 |[],vs,F,h=>by simp only[am] at h;exact⟨[],by simp[h],rfl,by simp⟩
 |x::args,vs,F,h=>by
  simp only[am] at h
  obtain⟨u,us,F1,F2,rfl,rfl,h1,h2⟩:=h
  obtain⟨Fs,k1,k2,k3⟩:=BM h2
  refine⟨F1::Fs,by simp[k1],by simp[k2],fun i x' v G hx hv hG=> ?_⟩
  cases i with
  |zero=>simp at hx hv hG;subst hx hv hG;exact h1
  |succ i=>exact k3 i x' v G (by simpa using hx) (by simpa using hv) (by simpa using hG)
theorem Fi {Fs:List (List Nat)} (h:Fs.flatten.Nodup):(∀ G∈Fs,G.Nodup)/\∀ (i j:Nat) G H b,i≠j->Fs[i]?=some G->Fs[j]?=some H->b∈G->b∉H:=by
 induction Fs with
 |nil=>simp
 |cons F Fs ih=>
  simp only[O_] at h
  obtain⟨n1,n2,n3⟩:=Pc.1 h
  obtain⟨k1,k2⟩:=ih n2
  refine⟨by simpa using⟨n1,k1⟩,fun i j G H b hij hi hj hb hbH=> ?_⟩
  have mem:∀ (k:Nat) G,Fs[k]?=some G->∀ b∈G,b∈Fs.flatten:=fun k G hk b hb=>List.mem_flatten.2 ⟨G,OE hk,hb⟩
  cases i with
  |zero=>
   cases j with
   |zero=>exact hij rfl
   |succ j=>simp at hi hj;subst hi;exact n3 b hb b (mem j H hj b hbH) rfl
  |succ i=>
   cases j with
   |zero=>simp at hi hj;subst hj;exact n3 b hbH b (mem i G hi b hb) rfl
   |succ j=>exact k2 i j G H b oM (by simpa using hi) (by simpa using hj) hb hbH
theorem BN {f:FuncId} {fn:Func} {x:SC} {qs:List RV} {args outs:List SV} {res:SV} (hf:P.funcs[f]?=some fn) (hfit:fits P f fn x qs args.length=true) (hok:args.all Fh=true) (hol:outs.length=args.length)
  (h:AW P x (BK fn.ntmps args.length qs res outs) ⟨Ea fn.ntmps args,Fg args⟩):cF P f args res outs:=by
 obtain⟨hmix,hcal,⟨code,hb,hm1⟩,hm2,hm3⟩:=C7 hfit
 refine⟨hcal,fun w M vs F hM hF hnod hrep hgood hfree=> ?_⟩
 have hlen:=hrep.length
 obtain⟨Fs,hFs,hFl,hFr⟩:=BM hrep
 obtain⟨hFn,hFd⟩:=Fi (by rw[hFs];exact hnod)
 refine calls_of_wp hf hb ?_
 let c:Cx:=⟨w.heap.size,w,M,(· ∈F),fn.ntmps,vs,hgood,hfree,OH _⟩
 let κ:Nat->Value:=fun i=>match args[i]? with|some (.own _ _)=>vs[i]?.getD (.pointer none)|_=> .pointer none
 let φ:Nat->List Nat:=fun i=>Fs[i]?.getD []
 have hφF:∀ i b,b∈φ i->b∈F:=fun i b hb=>by
  simp only[φ] at hb
  cases hi:Fs[i]? with
  |none=>simp[hi] at hb
  |some G=>simp[hi] at hb;rw[<-hFs];exact List.mem_flatten.2 ⟨G,OE hi,hb⟩
 have hown:∀ b,own c φ b↔(M b\/b∈F):=fun b=>by
  constructor
  ·rintro(h|⟨i,h⟩)
   ·exact .inl h
   ·exact .inr (hφF i b h)
  ·rintro(h|h)
   ·exact .inl h
   ·rw[<-hFs] at h
    obtain⟨G,hG,hbG⟩:=List.mem_flatten.1 h
    obtain⟨i,hi,rfl⟩:=List.getElem_of_mem hG
    exact .inr ⟨i,by simp only[φ,OJ hi];exact hbG⟩
 have hown':own c φ=fun b=>M b\/b∈F:=funext fun b=>propext (hown b)
 have harg:∀ i x,args[i]?=some x->∃ v,vs[i]?=some v/\ae w (own c φ) κ (ym i x) v/\kj w (own c φ) κ i (D_ x) (φ i)/\(κ i).oneCell'=true:=fun i x hx=>by
  have hi:i<args.length:=(OG.1 hx).1
  have hv:vs[i]?=some vs[i]:=OJ oM
  have hG:Fs[i]?=some Fs[i]:=OJ oM
  have hr:=hFr i x _ _ hx hv hG
  have hφi:φ i=Fs[i]:=by simp only[φ,hG,Pl]
  have hok':=Pa.1 hok x (OE hx)
  refine⟨_,hv, ?_⟩
  rw[hown',hφi]
  have plain:(∀ m d,x≠ .own m d)->ae w (fun b=>M b\/b∈F) κ (ym i x) vs[i]/\kj w (fun b=>M b\/b∈F) κ i (D_ x) Fs[i]/\(κ i).oneCell'=true:=fun hne=>by
   have hno:x.noOwn=true/\x.closed=true:=by
    cases x<;>simp_all [Fh]
   obtain⟨h1,h2⟩:=aK.to_S _ _ _ hno.1 hr
   have e1:ym i x=x:=by cases x<;>simp_all [ym]
   have e2:D_ x= .dead:=by cases x<;>simp_all [D_]
   rw[e1,e2]
   refine⟨h1.kappa _ _ hno.2,h2, ?_⟩
   simp only[κ,hx]
   cases x<;>first|rfl|simp_all
  cases x with
  |own m d=>
   simp only[Fh] at hok'
   obtain⟨⟨ch,mk⟩,ho⟩:=Pu.1 hok'
   simp only[aK] at hr
   obtain⟨hone,hmk⟩:=Bv hr ho
   have hκ:κ i=vs[i]:=by simp only[κ,hx,hv,Pl]
   simp only[ym,D_,ho]
   exact⟨hmk κ i hκ,(qB hr.shape ho hκ).2 hr,by rw[hκ];exact hone⟩
  |_=>exact plain oS
 have hr:cE c ⟨Ea fn.ntmps args,Fg args⟩ κ φ {tmps:=vs.toArray++Array.replicate (fn.ntmps - vs.toArray.size) undef,defers:=[]} w:=by
  refine⟨yZ.refl _ _ _,OH _,fun b hb=>⟨(hM b hb).1,(hM b hb).2⟩, ?_,rfl,fun i=> ?_,fun i hi=> ?_,fun i v hv=> ?_,fun i=> ?_,fun i b hb=>⟨hF b (hφF i b hb),.inr (hφF i b hb)⟩,fun i=> ?_,fun i j b hij hi hj=> ?_⟩
  ·show _=fn.ntmps
   simp;omega
  ·cases hx:args[i]? with
   |none=>simp only[κ,hx];rfl
   |some x=>obtain⟨_,_,_,_,h4⟩:=harg i x hx;exact h4
  ·simp only[Ea]
   have hi':i<fn.ntmps:=hi
   simp only[hi',PR]
   cases hx:args[i]? with
   |none=>simp[ae,aQ]
   |some x=>
    obtain⟨v,hv,h2,_⟩:=harg i x hx
    have hi':i<vs.length:=(OG.1 hv).1
    rw[PB,Array.getElem?_append_left (by simpa using hi')]
    simpa[hv] using h2
  ·show ae w (own c φ) κ (Ea fn.ntmps args (fn.ntmps+i)) v
   have e:¬ (fn.ntmps+i<fn.ntmps):=by omega
   simp only[Ea,e,Pp,Nat.add_sub_cancel_left]
   cases hx:args[i]? with
   |none=>simp[ae,aQ]
   |some x=>
    obtain⟨v',hv',h2,_⟩:=harg i x hx
    have:vs[i]?=some v:=hv
    rw[this] at hv';simp at hv';subst hv';exact h2
  ·show kj w (own c φ) κ i (Fg args i) (φ i)
   simp only[Fg]
   cases hx:args[i]? with
   |none=>
    have:Fs[i]?=none:=by rw[PE,hFl];exact PE.1 hx
    simp only[kj,φ,this,PP]
   |some x=>obtain⟨_,_,_,h3,_⟩:=harg i x hx;exact h3
  ·simp only[φ]
   cases hi:Fs[i]? with
   |none=>simp
   |some G=>simp;exact hFn G (OE hi)
  ·simp only[φ] at hi hj
   cases hFi:Fs[i]? with
   |none=>simp[hFi] at hi
   |some G=>
    cases hFj:Fs[j]? with
    |none=>simp[hFj] at hj
    |some H=>
     simp[hFi] at hi;simp[hFj] at hj
     exact hFd i j G H b hij hFi hFj hi hj
 have fin:∀ σ κ φ a w',cE c σ κ φ a w'->(∃ σ',dB σ σ'/\∃ xs rs ids,FQ σ' qs=some xs/\res=lN rs/\rs.length=xs.length/\tp σ'.h (io fn.ntmps σ' args.length++xs) (outs++rs) ids)->
   a.defers=[]/\∃ v,(results fn a.tmps).run P w'= .ok v w'/\(∃ v' F1 F2,Ending.returned v= .returned v'/\am w' (fun b=>M b\/b∈F1++F2) κ0 outs vs F1/\aK w' (fun b=>M b\/b∈F1++F2) κ0 res v' F2/\(F1++F2).Nodup/\
   (∀ b∈F1++F2,(b∈F\/w.heap.size<=b)/\b<w'.heap.size)/\yZ w.heap.size (· ∈F) w w'):=by
  rintro σ κ φ a w' hr' ⟨σ',himp,xs,rs,ids,hsv,rfl,hrl,hrok⟩
  obtain⟨κ',φ',hr'⟩:=himp _ _ _ _ _ hr'
  obtain⟨us,hus,hxs⟩:=Gw hr' hm2 hsv
  have hgh:=BL hr' args.length (by show args.length<=vs.length;omega)
  rw[show c.gs.take args.length=vs from O8 (by show vs.length<=args.length;omega)] at hgh
  obtain⟨F',k1,k2,k3⟩:=Lh hr' hrok (hgh.append hxs)
  have hMF:∀ b,(M b\/b∈F')->own c φ' b:=fun b hb=>by
   rcases hb with hb|hb
   ·exact .inl hb
   ·obtain⟨i,_,hi⟩:=k2 b hb;exact .inr ⟨i,hi⟩
  obtain⟨F1,F2,hF12,k4,k5⟩:=(k1 (fun b=>M b\/b∈F') hMF).split
  rw[hol] at k4 k5
  rw[show args.length=vs.length by omega,List.take_left] at k4
  rw[show args.length=vs.length by omega,List.drop_left] at k5
  subst hF12
  refine⟨hr'.defers,_,Af hus,_,F1,F2,rfl,k4, ?_,k3,fun b hb=> ?_,hr'.chg⟩
  ·have hul:=hxs.length
   match rs,hrl,k5 with
   |[r],hrl,k5=>
    have:us.length=1:=by simp at hrl;omega
    match us,this,k5 with
    |[u],_,k5=>
     simp only[am,O7] at k5
     obtain⟨_,_,G1,G2,⟨rfl,rfl⟩,hG,g1,_,rfl⟩:=k5
     rw[OY] at hG
     subst hG
     simpa[lN] using g1
   |[],hrl,k5=>
    have:us=[]:=OX.1 (by simp at hrl;omega)
    subst this
    simp only[lN,aK]
    exact⟨[],by simp,k5⟩
   |r::r'::rs,hrl,k5=>
    simp only[lN,aK]
    refine⟨us, ?_,k5⟩
    simp only[OW] at hrl
    rw[dif_neg oT]
  ·obtain⟨i,_,hi⟩:=k2 b hb
   have:=hr'.mine i b hi
   exact⟨this.2.symm,this.1⟩
 exact h hmix c code _ hm1 ⟨fun σ κ φ a w' hr' hq=>fin σ κ φ a w' hr' hq,fun i σ κ φ a w' hr' hq=>hq.elim,fun σ κ φ a w' hr' hq=>fin σ κ φ a w' hr' hq⟩ _ _ _ _ hr
end
