/-
  My text.
-/
import Derived.Test.YteaolfcegaidpaaGreatDoorSXEngL
namespace Go.Proofs.YteaolfcegaidpaaGreatDoor
set_option linter.unusedSimpArgs false
set_option linter.unusedVariables false
open Go.RowKit
inductive rP (h:Nat->Ch):List SV->List SV->List Nat->Prop
 |nil:rP h [] [] []
 |any {x:SV} {xs rs:List SV} {ids:List Nat} (hl:rP h xs rs ids):rP h (x::xs) (.d .any::rs) ids
 |data {x:SV} {d:DV} {xs rs:List SV} {ids:List Nat} (hx:x.toDV=some d) (hl:rP h xs rs ids):rP h (x::xs) (.d d::rs) ids
 |nils {e:Nat} {ms:List b8} {xs rs:List SV} {ids:List Nat} (hl:rP h xs rs ids):rP h (.nils::xs) (.own (.sl e ms) (.slice [])::rs) ids
 |own {id:Nat} {m:b8} {d:DV} {ch:Ch} {mk:Nat->SV} {xs rs:List SV} {ids:List Nat} (ho:cz m d=some (ch,mk)) (hs:ec m d) (hh:h id=ch) (hn:id∉ids) (hl:rP h xs rs ids):rP h (mk id::xs) (.own m d::rs) (id::ids)
 |agg {cs rs1 xs rs:List SV} {ids1 ids:List Nat} (hc:rP h cs rs1 ids1) (hn:∀ i∈ids1,i∉ids) (hl:rP h xs rs ids):rP h (.agg cs::xs) (.agg rs1::rs) (ids1++ids)
section
variable {P:Program} {c:Cx} {σ:St} {κ:Nat->Value} {φ:Nat->List Nat} {a:Act} {w:World}
theorem I5 (hr:ce c σ κ φ a w) {xs rs:List SV} {ids:List Nat} (h:rP σ.h xs rs ids):∀ {vs:List Value},aj w (own c φ) κ xs vs->
  ∃ F,(∀ M:Nat->Prop,(∀ b,M b->own c φ b)->ao w M κ0 rs vs F)/\(∀ b∈F,∃ id∈ids,b∈φ id)/\F.Nodup:=by
 induction h with
 |nil=>intro vs hx;simp only[aj] at hx;exact⟨[],fun M _=>by simp[ao,hx],by simp,by simp⟩
 |any _ ih=>
  intro vs hxs
  simp only[aj] at hxs
  obtain⟨u,us,rfl,h1,h2⟩:=hxs
  obtain⟨F,k1,k2,k3⟩:=ih h2
  refine⟨F,fun M hM=> ?_,k2,k3⟩
  simp only[ao]
  exact⟨u,us,[],F,rfl,rfl,by unfold aQ af aK;exact⟨rfl,trivial⟩,k1 M hM⟩
 |data hx _ ih=>
  intro vs hxs
  simp only[aj] at hxs
  obtain⟨u,us,rfl,h1,h2⟩:=hxs
  obtain⟨F,k1,k2,k3⟩:=ih h2
  refine⟨F,fun M hM=> ?_,k2,k3⟩
  simp only[ao]
  exact⟨u,us,[],F,rfl,rfl,by unfold aQ af;exact⟨rfl,(af.toDV _ _ _ h1 hx).ext (kN.shrink hM)⟩,k1 M hM⟩
 |nils _ ih=>
  intro vs hxs
  simp only[aj] at hxs
  obtain⟨u,us,rfl,h1,h2⟩:=hxs
  obtain⟨F,k1,k2,k3⟩:=ih h2
  refine⟨F,fun M hM=> ?_,k2,k3⟩
  simp only[ao]
  refine⟨u,us,[],F,rfl,rfl, ?_,k1 M hM⟩
  simp only[af] at h1
  subst h1
  simp only[aQ,fA]
  exact⟨[],[],[],rfl,World.ownsRow_nil w 0 _ _,by simp,by simp,by simp[iC],by simp[jy,vw]⟩
 | @own id m d ch mk _ _ ids ho hs hh hn _ ih=>
  intro vs hxs
  simp only[aj] at hxs
  obtain⟨u,us,rfl,h1,h2⟩:=hxs
  obtain⟨F,k1,k2,k3⟩:=ih h2
  have hch:=hr.chunks id
  rw[hh] at hch
  obtain⟨hk,_⟩:=Ck (φ:=φ) ho (aQ.of_S _ _ h1) hch
  have hO:=(pC hs ho hk).1 hch
  refine⟨φ id++F,fun M hM=> ?_,fun b hb=> ?_,MN.2 ⟨hr.nod id,k3,fun x hx y hy e=> ?_⟩⟩
  ·simp only[ao]
   exact⟨u,us,φ id,F,rfl,rfl,by simp only[aQ];exact fA.ext (kN.shrink hM) _ _ _ _ (fun _ _=>rfl) hO,k1 M hM⟩
  ·rcases Mt.1 hb with hb|hb
   ·exact⟨id,by simp,hb⟩
   ·obtain⟨j,hj,hbj⟩:=k2 b hb;exact⟨j,by simp[hj],hbj⟩
  ·subst e
   obtain⟨j,hj,hxj⟩:=k2 x hy
   exact hr.sep id j x (fun e=>hn (e▸hj)) hx hxj
 | @agg cs rs1 xs rs ids1 ids _ hn _ ih1 ih=>
  intro vs hxs
  simp only[aj] at hxs
  obtain⟨u,us,rfl,h1,h2⟩:=hxs
  simp only[af] at h1
  obtain⟨vs',rfl,h3,h4⟩:=h1
  obtain⟨F1,g1,g2,g3⟩:=ih1 h4
  obtain⟨F,k1,k2,k3⟩:=ih h2
  refine⟨F1++F,fun M hM=> ?_,fun b hb=> ?_,MN.2 ⟨g3,k3,fun x hx y hy e=> ?_⟩⟩
  ·simp only[ao]
   exact⟨_,us,F1,F,rfl,rfl,by simp only[aQ];exact⟨vs',rfl,h3,g1 M hM⟩,k1 M hM⟩
  ·rcases Mt.1 hb with hb|hb
   ·obtain⟨j,hj,hbj⟩:=g2 b hb;exact⟨j,by simp[hj],hbj⟩
   ·obtain⟨j,hj,hbj⟩:=k2 b hb;exact⟨j,by simp[hj],hbj⟩
  ·subst e
   obtain⟨i,hi,hxi⟩:=g2 x hx
   obtain⟨j,hj,hxj⟩:=k2 x hy
   exact hr.sep i j x (fun e=>hn i hi (e▸hj)) hxi hxj
def RV.sv (σ:St):RV->Option SV
 | .t n=>some (σ.s n)
 | .cell n sz=>match σ.s n with
  | .d (.ptr cs)=>if sz<=cs.length then some (.d (.agg (cs.take sz))) else none
  | .ref id off=>match σ.h id with
   | .box cs=>if off=0/\sz=cs.length/\SV.noOwns cs=true then some (.agg cs) else none
   |_=>none
  |_=>none
def HQ (σ:St):List RV->Option (List SV)
 |[]=>some []
 |r::rs=>match r.sv σ,HQ σ rs with|some x,some xs=>some (x::xs)|_,_=>none
theorem Lf (hr:ce c σ κ φ a w) {r:ResultVar} {q:RV} (hm:mt P c.N r q=true) {x:SV} (hg:q.sv σ=some x):
  ∃ v,(match r with| .tmp t=>pure (a.tmps.getD t undef)| .cell a' t=>do loadVar t (<-asAddr (a.tmps.getD a' undef)):Sem Value).run P w= .ok v w/\af w (own c φ) κ x v:=by
 cases r with
 |tmp t=>
  cases q with
  |t n=>
   simp only[mt,L9,Mc,Ma] at hm
   obtain⟨rfl,hn⟩:=hm
   simp only[RV.sv,L7] at hg
   subst hg
   exact⟨_,rfl,hr.slots t hn⟩
  |cell _ _=>simp[mt] at hm
 |cell a' t=>
  cases q with
  |t n=>simp[mt] at hm
  |cell n sz=>
   simp only[mt,L9,Mc,Ma] at hm
   obtain⟨⟨⟨⟨rfl,hn⟩,h2⟩,h3⟩,rfl⟩:=hm
   split at h2
   ·rename_i td htd
    have hs:=hr.slots a' hn
    simp only[RV.sv] at hg
    split at hg
    ·rename_i cs heq
     rw[heq] at hs
     simp only[af,aK] at hs
     obtain⟨b,o,hv,hm',hlt,hat⟩:=hs
     split at hg
     ·rename_i hle
      simp only[L7] at hg;subst hg
      obtain⟨vs,hl,hone,hcell⟩:=hat.values
      have hlen:=hl.length
      have:=mn (P:=P) (w:=w) (b:=b) (o:=o) (vs:=vs.take (P.cellsOf t)) htd h2 h3 oT (fun j v hj=>hcell j v (by
       rw[Nc] at hj;split at hj
       ·exact hj
       ·cases hj))
      refine⟨.agg (vs.take (P.cellsOf t)).toArray,by simp[hv,asAddr,this], ?_⟩
      simp only[af,aK]
      exact⟨_,rfl,fun z hz=>hone z (MC hz),hl.take _⟩
     ·cases hg
    ·rename_i id off heq
     rw[heq] at hs
     simp only[af] at hs
     obtain⟨b,hkb,hv⟩:=hs
     split at hg
     ·rename_i cs hbox
      split at hg
      ·rename_i hoff
       obtain⟨rfl,hsz,hno⟩:=hoff
       simp only[L7] at hg;subst hg
       have hch:=hr.chunks id
       rw[hbox] at hch
       obtain⟨b',T,vs,G,hk',hheap,h1',hl,hφ⟩:=hch
       rw[hkb] at hk';simp at hk';subst hk'
       have hlen:=hl.length
       have:=mn (P:=P) (w:=w) (b:=b) (o:=0) (vs:=vs) htd h2 h3 oM (fun j v hj=>by rw[M7,cell_of_row w b j _ T _ hheap];simpa using hj)
       refine⟨.agg vs.toArray,by simp[hv,asAddr,this], ?_⟩
       simp only[af]
       exact⟨_,rfl,h1',(ao.to_S _ _ _ hno hl).1⟩
      ·cases hg
     ·cases hg
    ·cases hg
   ·cases h2
theorem HR (hr:ce c σ κ φ a w):∀ {rs:List ResultVar} {qs:List RV},gk P c.N rs qs=true->∀ {xs:List SV},HQ σ qs=some xs->
  ∃ vs:List Value,(rs.mapM fun r=>(match r with| .tmp t=>pure (a.tmps.getD t undef)| .cell a' t=>do loadVar t (<-asAddr (a.tmps.getD a' undef)):Sem Value)).run P w= .ok vs w/\aj w (own c φ) κ xs vs
 |[],[],_,xs,h=>by
  simp only[HQ,L7] at h;subst h
  exact⟨[],by simp,by unfold aj;rfl⟩
 |r::rs,q::qs,hm,xs,h=>by
  simp only[gk,L9] at hm
  simp only[HQ] at h
  split at h
  ·rename_i y ys hx hxs
   simp only[L7] at h;subst h
   obtain⟨v,hv,hrep⟩:=Lf hr hm.1 hx
   obtain⟨vs,hvs,hreps⟩:=HR hr hm.2 hxs
   refine⟨v::vs, ?_,by unfold aj;exact⟨v,vs,rfl,hrep,hreps⟩⟩
   simp only[List.mapM_cons,Sem.run_bind,Sem.run_pure]
   rw[hv]
   simp only[Result.andThen_ok,hvs]
  ·cases h
 |[],_::_,hm,_,_=>by simp[gk] at hm
 |_::_,[],hm,_,_=>by simp[gk] at hm
theorem DB {fn:Func} {vs:List Value} (hvs:(fn.results.toList.mapM fun r=>(match r with| .tmp t=>pure (a.tmps.getD t undef)| .cell a' t=>do loadVar t (<-asAddr (a.tmps.getD a' undef)):Sem Value)).run P w= .ok vs w):
  (results fn a.tmps).run P w= .ok (if h:vs.toArray.size=1 then vs.toArray[0] else .tuple vs.toArray) w:=by
 have hmap:∀ g:ResultVar->Sem Value,(fn.results.mapM g).run P w=((fn.results.toList.mapM g).run P w).andThen fun l w'=> .ok l.toArray w':=fun g=>by
  rw[Array.mapM_eq_mapM_toList]
  simp
 unfold results
 simp only[Sem.run_bind]
 rw[hmap]
 exact congrArg (fun r:Result (List Value)=>(r.andThen fun l w'=>Result.ok l.toArray w').andThen fun(a:Array Value) w'=>Sem.run P (pure (if h:a.size=1 then a[0] else Value.tuple a)) w') hvs
end
def tp:List SV->SV
 |[x]=>x
 |l=> .tup l
def wJ (i:Nat):SV->SV
 | .own m v=>match cz m v with|some (_,mk)=>mk i|none=> .d .any
 |x=>x
def Cs:SV->Ch
 | .own m v=>match cz m v with|some (ch,_)=>ch|none=> .dead
 |_=> .dead
def Ct (N:Nat) (args:List SV):Nat->SV:=fun j=>if j<N then(match args[j]? with|some x=>wJ j x|none=> .d .any) else match args[j - N]? with|some x=>wJ (j - N) x|none=> .d .any
def DC (args:List SV):Nat->Ch:=fun i=>match args[i]? with|some x=>Cs x|none=> .dead
def lp (N:Nat) (σ:St):Nat->List SV
 |0=>[]
 |n+1=>lp N σ n++[σ.s (N+n)]
def DD:SV->Bool
 | .own m v=>(cz m v).isSome
 |x=>x.noOwn&&x.closed
def DE (N n:Nat) (qs:List RV) (res:SV) (outs:List SV):AX->St->Prop
 | .exit _,_=>False
 |_,σ=>∃ σ',f0 σ σ'/\∃ xs rs ids,HQ σ' qs=some xs/\res=tp rs/\rs.length=xs.length/\rP σ'.h (lp N σ' n++xs) (outs++rs) ids
section
variable {P:Program}
theorem zU {c:Cx} {σ:St} {κ:Nat->Value} {φ:Nat->List Nat} {a:Act} {w:World} (hr:ce c σ κ φ a w):∀ n,n<=c.gs.length->aj w (own c φ) κ (lp c.N σ n) (c.gs.take n)
 |0,_=>by simp[lp,aj]
 |n+1,h=>by
  have hn:c.gs[n]?=some c.gs[n]:=Mi oM
  rw[List.take_add_one,hn]
  exact(zU hr n oM).append (aj.one (hr.ghost n _ hn))
theorem zV {w:World} {M:Nat->Prop}:∀ {args:List SV} {vs:List Value} {F:List Nat},ao w M κ0 args vs F->∃ Fs:List (List Nat),Fs.flatten=F/\Fs.length=args.length/\∀ (i:Nat) x v G,args[i]?=some x->vs[i]?=some v->Fs[i]?=some G->aQ w M κ0 x v G
 |[],vs,F,h=>by simp only[ao] at h;exact⟨[],by simp[h],rfl,by simp⟩
 |x::args,vs,F,h=>by
  simp only[ao] at h
  obtain⟨u,us,F1,F2,rfl,rfl,h1,h2⟩:=h
  obtain⟨Fs,k1,k2,k3⟩:=zV h2
  refine⟨F1::Fs,by simp[k1],by simp[k2],fun i x' v G hx hv hG=> ?_⟩
  cases i with
  |zero=>simp at hx hv hG;subst hx hv hG;exact h1
  |succ i=>exact k3 i x' v G (by simpa using hx) (by simpa using hv) (by simpa using hG)
theorem DF {Fs:List (List Nat)} (h:Fs.flatten.Nodup):(∀ G∈Fs,G.Nodup)/\∀ (i j:Nat) G H b,i≠j->Fs[i]?=some G->Fs[j]?=some H->b∈G->b∉H:=by
 induction Fs with
 |nil=>simp
 |cons F Fs ih=>
  simp only[MJ] at h
  obtain⟨n1,n2,n3⟩:=MN.1 h
  obtain⟨k1,k2⟩:=ih n2
  refine⟨by simpa using⟨n1,k1⟩,fun i j G H b hij hi hj hb hbH=> ?_⟩
  have mem:∀ (k:Nat) G,Fs[k]?=some G->∀ b∈G,b∈Fs.flatten:=fun k G hk b hb=>List.mem_flatten.2 ⟨G,Mb hk,hb⟩
  cases i with
  |zero=>
   cases j with
   |zero=>exact hij rfl
   |succ j=>simp at hi hj;subst hi;exact n3 b hb b (mem j H hj b hbH) rfl
  |succ i=>
   cases j with
   |zero=>simp at hi hj;subst hj;exact n3 b hbH b (mem i G hi b hb) rfl
   |succ j=>exact k2 i j G H b oM (by simpa using hi) (by simpa using hj) hb hbH
theorem zW {f:FuncId} {fn:Func} {x:SC} {qs:List RV} {args outs:List SV} {res:SV} (hf:P.funcs[f]?=some fn) (hfit:fits P f fn x qs args.length=true) (hok:args.all DD=true) (hol:outs.length=args.length)
  (h:AW P x (DE fn.ntmps args.length qs res outs) ⟨Ct fn.ntmps args,DC args⟩):cQ P f args res outs:=by
 obtain⟨hmix,hcal,⟨code,hb,hm1⟩,hm2,hm3⟩:=Bn hfit
 refine⟨hcal,fun w M vs F hM hF hnod hrep hgood hfree=> ?_⟩
 have hlen:=hrep.length
 obtain⟨Fs,hFs,hFl,hFr⟩:=zV hrep
 obtain⟨hFn,hFd⟩:=DF (by rw[hFs];exact hnod)
 refine calls_of_wp hf hb ?_
 let c:Cx:=⟨w.heap.size,w,M,(· ∈F),fn.ntmps,vs,hgood,hfree,Me _⟩
 let κ:Nat->Value:=fun i=>match args[i]? with|some (.own _ _)=>vs[i]?.getD (.pointer none)|_=> .pointer none
 let φ:Nat->List Nat:=fun i=>Fs[i]?.getD []
 have hφF:∀ i b,b∈φ i->b∈F:=fun i b hb=>by
  simp only[φ] at hb
  cases hi:Fs[i]? with
  |none=>simp[hi] at hb
  |some G=>simp[hi] at hb;rw[<-hFs];exact List.mem_flatten.2 ⟨G,Mb hi,hb⟩
 have hown:∀ b,own c φ b↔(M b\/b∈F):=fun b=>by
  constructor
  ·rintro(h|⟨i,h⟩)
   ·exact .inl h
   ·exact .inr (hφF i b h)
  ·rintro(h|h)
   ·exact .inl h
   ·rw[<-hFs] at h
    obtain⟨G,hG,hbG⟩:=List.mem_flatten.1 h
    obtain⟨i,hi,rfl⟩:=List.getElem_of_mem hG
    exact .inr ⟨i,by simp only[φ,Mi hi];exact hbG⟩
 have hown':own c φ=fun b=>M b\/b∈F:=funext fun b=>propext (hown b)
 have harg:∀ i x,args[i]?=some x->∃ v,vs[i]?=some v/\af w (own c φ) κ (wJ i x) v/\j7 w (own c φ) κ i (Cs x) (φ i)/\(κ i).oneCell'=true:=fun i x hx=>by
  have hi:i<args.length:=(Md.1 hx).1
  have hv:vs[i]?=some vs[i]:=Mi oM
  have hG:Fs[i]?=some Fs[i]:=Mi oM
  have hr:=hFr i x _ _ hx hv hG
  have hφi:φ i=Fs[i]:=by simp only[φ,hG,MO]
  have hok':=MD.1 hok x (Mb hx)
  refine⟨_,hv, ?_⟩
  rw[hown',hφi]
  have plain:(∀ m d,x≠ .own m d)->af w (fun b=>M b\/b∈F) κ (wJ i x) vs[i]/\j7 w (fun b=>M b\/b∈F) κ i (Cs x) Fs[i]/\(κ i).oneCell'=true:=fun hne=>by
   have hno:x.noOwn=true/\x.closed=true:=by
    cases x<;>simp_all [DD]
   obtain⟨h1,h2⟩:=aQ.to_S _ _ _ hno.1 hr
   have e1:wJ i x=x:=by cases x<;>simp_all [wJ]
   have e2:Cs x= .dead:=by cases x<;>simp_all [Cs]
   rw[e1,e2]
   refine⟨h1.kappa _ _ hno.2,h2, ?_⟩
   simp only[κ,hx]
   cases x<;>first|rfl|simp_all
  cases x with
  |own m d=>
   simp only[DD] at hok'
   obtain⟨⟨ch,mk⟩,ho⟩:=MV.1 hok'
   simp only[aQ] at hr
   obtain⟨hone,hmk⟩:=zL hr ho
   have hκ:κ i=vs[i]:=by simp only[κ,hx,hv,MO]
   simp only[wJ,Cs,ho]
   exact⟨hmk κ i hκ,(pC hr.shape ho hκ).2 hr,by rw[hκ];exact hone⟩
  |_=>exact plain oS
 have hr:ce c ⟨Ct fn.ntmps args,DC args⟩ κ φ {tmps:=vs.toArray++Array.replicate (fn.ntmps - vs.toArray.size) undef,defers:=[]} w:=by
  refine⟨xl.refl _ _ _,Me _,fun b hb=>⟨(hM b hb).1,(hM b hb).2⟩, ?_,rfl,fun i=> ?_,fun i hi=> ?_,fun i v hv=> ?_,fun i=> ?_,fun i b hb=>⟨hF b (hφF i b hb),.inr (hφF i b hb)⟩,fun i=> ?_,fun i j b hij hi hj=> ?_⟩
  ·show _=fn.ntmps
   simp;omega
  ·cases hx:args[i]? with
   |none=>simp only[κ,hx];rfl
   |some x=>obtain⟨_,_,_,_,h4⟩:=harg i x hx;exact h4
  ·simp only[Ct]
   have hi':i<fn.ntmps:=hi
   simp only[hi',Nr]
   cases hx:args[i]? with
   |none=>simp[af,aK]
   |some x=>
    obtain⟨v,hv,h2,_⟩:=harg i x hx
    have hi':i<vs.length:=(Md.1 hv).1
    rw[Nk,Array.getElem?_append_left (by simpa using hi')]
    simpa[hv] using h2
  ·show af w (own c φ) κ (Ct fn.ntmps args (fn.ntmps+i)) v
   have e:¬ (fn.ntmps+i<fn.ntmps):=by omega
   simp only[Ct,e,MZ,Nat.add_sub_cancel_left]
   cases hx:args[i]? with
   |none=>simp[af,aK]
   |some x=>
    obtain⟨v',hv',h2,_⟩:=harg i x hx
    have:vs[i]?=some v:=hv
    rw[this] at hv';simp at hv';subst hv';exact h2
  ·show j7 w (own c φ) κ i (DC args i) (φ i)
   simp only[DC]
   cases hx:args[i]? with
   |none=>
    have:Fs[i]?=none:=by rw[Nz,hFl];exact Nz.1 hx
    simp only[j7,φ,this,Nf]
   |some x=>obtain⟨_,_,_,h3,_⟩:=harg i x hx;exact h3
  ·simp only[φ]
   cases hi:Fs[i]? with
   |none=>simp
   |some G=>simp;exact hFn G (Mb hi)
  ·simp only[φ] at hi hj
   cases hFi:Fs[i]? with
   |none=>simp[hFi] at hi
   |some G=>
    cases hFj:Fs[j]? with
    |none=>simp[hFj] at hj
    |some H=>
     simp[hFi] at hi;simp[hFj] at hj
     exact hFd i j G H b hij hFi hFj hi hj
 have fin:∀ σ κ φ a w',ce c σ κ φ a w'->(∃ σ',f0 σ σ'/\∃ xs rs ids,HQ σ' qs=some xs/\res=tp rs/\rs.length=xs.length/\rP σ'.h (lp fn.ntmps σ' args.length++xs) (outs++rs) ids)->
   a.defers=[]/\∃ v,(results fn a.tmps).run P w'= .ok v w'/\(∃ v' F1 F2,Ending.returned v= .returned v'/\ao w' (fun b=>M b\/b∈F1++F2) κ0 outs vs F1/\aQ w' (fun b=>M b\/b∈F1++F2) κ0 res v' F2/\(F1++F2).Nodup/\
   (∀ b∈F1++F2,(b∈F\/w.heap.size<=b)/\b<w'.heap.size)/\xl w.heap.size (· ∈F) w w'):=by
  rintro σ κ φ a w' hr' ⟨σ',himp,xs,rs,ids,hsv,rfl,hrl,hrok⟩
  obtain⟨κ',φ',hr'⟩:=himp _ _ _ _ _ hr'
  obtain⟨us,hus,hxs⟩:=HR hr' hm2 hsv
  have hgh:=zU hr' args.length (by show args.length<=vs.length;omega)
  rw[show c.gs.take args.length=vs from MF (by show vs.length<=args.length;omega)] at hgh
  obtain⟨F',k1,k2,k3⟩:=I5 hr' hrok (hgh.append hxs)
  have hMF:∀ b,(M b\/b∈F')->own c φ' b:=fun b hb=>by
   rcases hb with hb|hb
   ·exact .inl hb
   ·obtain⟨i,_,hi⟩:=k2 b hb;exact .inr ⟨i,hi⟩
  obtain⟨F1,F2,hF12,k4,k5⟩:=(k1 (fun b=>M b\/b∈F') hMF).split
  rw[hol] at k4 k5
  rw[show args.length=vs.length by omega,List.take_left] at k4
  rw[show args.length=vs.length by omega,List.drop_left] at k5
  subst hF12
  refine⟨hr'.defers,_,DB hus,_,F1,F2,rfl,k4, ?_,k3,fun b hb=> ?_,hr'.chg⟩
  ·have hul:=hxs.length
   match rs,hrl,k5 with
   |[r],hrl,k5=>
    have:us.length=1:=by simp at hrl;omega
    match us,this,k5 with
    |[u],_,k5=>
     simp only[ao,MG] at k5
     obtain⟨_,_,G1,G2,⟨rfl,rfl⟩,hG,g1,_,rfl⟩:=k5
     rw[Mw] at hG
     subst hG
     simpa[tp] using g1
   |[],hrl,k5=>
    have:us=[]:=Ms.1 (by simp at hrl;omega)
    subst this
    simp only[tp,aQ]
    exact⟨[],by simp,k5⟩
   |r::r'::rs,hrl,k5=>
    simp only[tp,aQ]
    refine⟨us, ?_,k5⟩
    simp only[Mv] at hrl
    rw[dif_neg oT]
  ·obtain⟨i,_,hi⟩:=k2 b hb
   have:=hr'.mine i b hi
   exact⟨this.2.symm,this.1⟩
 exact h hmix c code _ hm1 ⟨fun σ κ φ a w' hr' hq=>fin σ κ φ a w' hr' hq,fun i σ κ φ a w' hr' hq=>hq.elim,fun σ κ φ a w' hr' hq=>fin σ κ φ a w' hr' hq⟩ _ _ _ _ hr
end
