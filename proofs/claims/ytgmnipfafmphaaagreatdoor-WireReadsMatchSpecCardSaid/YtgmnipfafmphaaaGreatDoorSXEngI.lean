/-
  My text.
-/
import Derived.Test.YtgmnipfafmphaaaGreatDoorSXEngH
import Derived.Lib.AppendStr
namespace Go.Proofs.YtgmnipfafmphaaaGreatDoor
set_option linter.unusedVariables false
open Go.RowKit
inductive Pq where
 |boxM (x:SX)
 |st (n:Nat) (p v:SX)
 |app (e sz:Nat) (x y:SX)
 |appS (e:Nat) (x y:SX)
 |mkmap (kk:KK)
 |mset (kk:KK) (m k v:SX)
 |trunc (sz:Nat) (x hi:SX)
 |slM (e sz:Nat) (xs:List SX)
 |bldM (T e:Nat)
variable {G:List Nat} {K:Nat} {M:Nat->Prop} {T:TypeId} {X:List Value} {args:Array Operand} {b:Nat} {cs:List SV} {d e:Nat} {es:List MapEntry} {f:List (List SV)} {i:TypeInfo} {id:Nat} {k:List Value} {kk:KK} {n:Nat} {o:Oper} {off:Nat} {p:SX} {r:List SV} {rows:List (List SV)} {sz:Nat} {t:TypeId} {ts:Array TypeId} {v v':Value} {vs:List Value} {w':World} {x x':Operand} {xs:List Value} {y y':Operand} {z:Value}
def splice {α:Type} (cs:List α) (off:Nat) (vs:List α):List α:=cs.take off++vs++cs.drop (off+vs.length)
def dh (σ:St) (dst id e sz:Nat) (rows:List (List SV)):St:=
 {σ.swap id .any (.vec e sz (dz id .any rows)) with s:=ap (bG id .any σ.s) dst (.vec id)}
def dR (r:List DV):List SV:=r.map .d
def sM:SV->Option (List (List SV))
 | .lit sz n cs=>some (f_ sz n cs)
 |x=>match x.toDV with|some (.slice rows)=>some (rows.map dR)|_=>none
def wr (σ:St) (dst:Nat):Pq->Option (Prop×St)
 | .boxM x=>match(ev σ.s x).cells? with
  |some cs=>some (True,{σ.swap dst .any (.box (ck dst .any cs)) with s:=ap (bG dst .any σ.s) dst (.ref dst 0)})
  |none=>none
 | .st n p v=>match ev σ.s p with
  | .ref id off=>match σ.h id,(ev σ.s v).cells? with
   | .box cs,some vs=>some (vs.length=n/\off+n<=cs.length,⟨σ.s,ap σ.h id (.box (splice cs off vs))⟩)
   |_,_=>none
  | .vref id sz i off=>match σ.h id,(ev σ.s v).cells? with
   | .vec e R rows,some vs=>match rows[i]? with
    |some r=>some (R=sz/\vs.length=n/\off+n<=r.length,⟨σ.s,ap σ.h id (.vec e R (rows.set i (splice r off vs)))⟩)
    |none=>none
   |_,_=>none
  |_=>none
 | .app e sz x y=>match ev σ.s x,sM (ev σ.s y) with
  | .vec id,some f=>match σ.h id with
   | .vec e' R rows=>some (e'=e/\R=sz/\(∀ r∈f,r.length=sz)/\rows.length+f.length<=137438953472,dh σ dst id e sz (rows++f))
   |_=>none
  | .nils,some f=>some ((∀ r∈f,r.length=sz)/\f.length<=137438953472,dh σ dst dst e sz f)
  | .lit R n cs,some f=>some (R=sz/\0<f.length/\(∀ r∈f,r.length=sz)/\n+f.length<=137438953472,dh σ dst dst e sz (f_ sz n cs++f))
  |_,_=>none
 | .appS e x y=>match ev σ.s x,ev σ.s y with
  | .vec id,.d (.str l)=>match σ.h id with
   | .vec e' R rows=>some (e'=e/\R=1/\rows.length+l.length<=137438953472,dh σ dst id e 1 (rows++l.map fun b=>[.d (.int .u8 b.toNat)]))
   |_=>none
  | .nils,.d (.str l)=>some (l.length<=137438953472,dh σ dst dst e 1 (l.map fun b=>[.d (.int .u8 b.toNat)]))
  |_,_=>none
 | .mkmap kk=>some (True,{σ.swap dst .any (.map kk []) with s:=ap (bG dst .any σ.s) dst (.mp dst)})
 | .mset kk m k v=>match ev σ.s m,ev σ.s k with
  | .mp id,.d x=>match σ.h id with
   | .map v3 kv=>some (v3=kk/\kk.fits x=true,⟨σ.s,ap σ.h id (.map kk (pq kv x (ev σ.s v)))⟩)
   |_=>none
  |_,_=>none
 | .trunc sz x hi=>match ev σ.s x,ev σ.s hi with
  | .vec id,.d (.int _ n)=>match σ.h id with
   | .vec e R rows=>some (R=sz/\0<=n/\n<=rows.length,dh σ dst id e sz (rows.take n.toNat))
   |_=>none
  |_,_=>none
 | .slM e sz xs=>match lY sz (xs.map (ev σ.s)) with
  |some cs=>some (True,dh σ dst dst e sz (f_ sz xs.length cs))
  |none=>none
 | .bldM T e=>some (True,{σ.swap dst .any (.bld T e []) with s:=ap (bG dst .any σ.s) dst (.ref dst 0)})
def ow (P:Program) (N:Nat) (op:Op) (dst:Option Tmp) (d:Nat):Pq->Bool
 | .boxM y=>dst==some d&&decide (d<N)&&(match op with
  | .box _ x=>aP N x y
  | .alloc t=>HE P t y
  |_=>false)
 | .st n p v=>dst==none&&(match op with
  | .store t x y=>aP N x p&&aP N y v&&(P.info? t).isSome&&P.cellsOf t==n
  |_=>false)
 | .app e sz x y=>dst==some d&&decide (d<N)&&(match op with
  | .call {callee:= .builtin .append,args,argTypes}=>(match args.toList,argTypes.toList with
   |[x',y'],[t,t']=>aP N x' x&&aP N y' y&&t==t'&&(match P.underlying t with
    |some (.slice e')=>e'==e&&(match P.info? e with|some i=>i.size==sz&&decide (0<sz)&&decide (i.bytes<=1024)&&(match i.zero with|some z=>z.cells.size==sz|none=>false)|none=>false)
    |_=>false)
   |_,_=>false)
  |_=>false)
 | .appS e x y=>dst==some d&&decide (d<N)&&(match op with
  | .call {callee:= .builtin .append,args,argTypes}=>(match args.toList,argTypes.toList with
   |[x',y'],[t,t']=>aP N x' x&&aP N y' y&&(match P.underlying t' with|some .string=>true|_=>false)&&(match P.underlying t with
    |some (.slice e')=>e'==e&&(match P.info? e with|some i=>i.size==1&&i.bytes==1&&(match i.zero with|some (.int .u8 0)=>true|_=>false)|none=>false)
    |_=>false)
   |_,_=>false)
  |_=>false)
 | .mkmap kk=>dst==some d&&decide (d<N)&&(match op with
  | .makeMap t none=>(match P.underlying t with|some (.map kt _)=>Gh P kt==some kk|_=>false)
  |_=>false)
 | .mset kk m k v=>dst==none&&(match op with
  | .mapUpdate t x y z=>aP N x m&&aP N y k&&aP N z v&&(match P.underlying t with|some (.map kt _)=>Gh P kt==some kk|_=>false)
  |_=>false)
 | .trunc sz y h=>dst==some d&&decide (d<N)&&(match op with
  | .slice t x none (some hi) none=>aP N x y&&aP N hi h&&(match P.underlying t with|some (.slice e)=>(P.info? e).isSome&&P.cellsOf e==sz&&decide (0<sz)|_=>false)
  |_=>false)
 | .slM e sz xs=>dst==some d&&decide (d<N)&&(match op with
  | .buildSlice t n o=>n==o.size&&pF N 0 o.toList xs&&(match P.underlying t with
   |some (.slice e')=>e'==e&&(match P.info? e' with|some i=>i.size==sz&&decide (0<sz)&&decide (n * sz<=16777216)&&(match i.zero with|some z=>z.cells.size==sz|none=>false)|none=>false)
   |_=>false)
  |_=>false)
 | .bldM T _=>dst==some d&&decide (d<N)&&(match op with
  | .alloc t=>t==T&&(match P.info? t with|some i=>(match i.zero with|some z=>(match z.cells.toList with|[.pointer none,.slice none 0 0]=>true|_=>false)|none=>false)|none=>false)
  |_=>false)
section
variable {P:Program} {c:Cx} {σ:St} {κ:Nat->Value} {φ:Nat->List Nat} {a:Act} {w:World}
theorem M2 {cs:List DV} (h:aM w M cs vs):av w M κ (dR cs) vs:=av.of_d h
theorem C1 (rows:List (List DV)):(rows.map dR).flatten=dR rows.flatten:=by
 induction rows with
 |nil=>rfl
 |cons r rows ih=>simp[dR] at ih⊢;exact ih
theorem C2 {g:List Value} (h:∀ x∈X,x.oneCell'=true) (k:∀ x∈g,x.oneCell'=true):∀ x∈X.take off++g++X.drop (off+g.length),x.oneCell'=true:=by
 intro x hx
 simp only[VM] at hx
 rcases hx with(hx|hx)|hx
 ·exact h x (VU hx)
 ·exact k x hx
 ·exact h x (WD hx)
theorem vV {sz:Nat}:∀ (rows:List (List SV)) (i off:Nat) (r vs:List SV),(∀ q∈rows,q.length=sz)->rows[i]?=some r->off+vs.length<=r.length->
  (rows.set i (splice r off vs)).flatten=splice rows.flatten (i * sz+off) vs
 |[],i,off,r,vs,_,h,_=>by simp at h
 |q::rows,0,off,r,vs,W,h,s0=>by
  simp at h;subst h
  simp only[Xi,V4,XL,VD,splice]
  rw[WY oM,List.drop_append_of_le_length oM]
  simp
 |q::rows,i+1,off,r,vs,W,h,s0=>by
  have hq:=W q oS
  have ih:=vV (sz:=sz) rows i off r vs (fun q hq=>W q (by simp[hq])) (by simpa using h) s0
  simp only[List.set_cons_succ,V4]
  rw[ih]
  unfold splice
  rw[show(i+1) * sz+off=q.length+(i * sz+off) by rw[WA];omega]
  rw[List.take_length_add_append,show q.length+(i * sz+off)+vs.length=q.length+(i * sz+off+vs.length) by omega,List.drop_length_add_append]
  simp
theorem zc (w:World) (g:Nat) (cs:Array Value):(w.setRow g cs).os=w.os/\(w.setRow g cs).tape=w.tape/\(w.setRow g cs).output=w.output/\(w.setRow g cs).heap.size=w.heap.size/\∀ b,b≠g->(w.setRow g cs).heap[b]?=w.heap[b]?:=
 ⟨rfl,rfl,rfl,by simp[World.setRow],fun b hb=>setRow_other w g b cs hb⟩
theorem M3 {o:Nat} {I:Array Value} (hi:(P.info? t).isSome=true) (hn:P.cellsOf t=n) (hx:a.eval x= .pointer (some ⟨b,o,none⟩)) (hv:(a.eval y).cells=vs.toArray) (hl:vs.length=n) (r1:∀ x∈vs,x.oneCell'=true) (hb:w.heap[b]?=some (.cells I T (0,0))) (s0:o+vs.length<=I.size) (dst:Option Tmp) (ty:TypeId) (pos:String) (S:Array Edge) (gd:Option (Nat×Bool)):
  (execOp a.eval ⟨dst,.store t x y,ty,pos,S,gd⟩).run P w= .ok .skip (w.setRow b (I.toList.take o++vs++I.toList.drop (o+vs.length)).toArray):=by
 have hs:=run_storeCells_at P b o T vs 0 I w hb (by simpa using s0) r1
 simp only[WO] at hs
 have d:¬ (vs.toArray.size≠P.cellsOf t):=by simp;omega
 simp only[execOp,Instr.storeAt,Instr.sureAddr,hx,Sem.run_bind,Sem.run_pure,Result.andThen_ok,storeVar,f5 hi,hv]
 rw[WU d]
 simp only[hs,Result.andThen_ok]
def mI (P:Program) (c:Cx) (o:Oper) (a:Act) (w:World) (O:St):Prop:=
 ∃ v w' W h7,(execOp a.eval o).run P w= .ok v w'/\((∃ u,v= .value u/\dp c O W h7 (a.put o.dst u) w')\/(v= .skip/\dp c O W h7 (a.put o.dst undef) w'))
theorem xj (D:dp c σ κ φ a w) (hb:b∈φ id):¬ c.M0 b:=fun h=>by
 have h1:=D.m0 b h
 rcases(D.mine id b hb).2 with h2|h2
 ·omega
 ·exact h1.2 h2
theorem M4 (D:dp c σ κ φ a w) (hd:o.dst=some d) (h2:∀ u∈vs,u.oneCell'=true) (E:av w (own c φ) κ cs vs) (U:(execOp a.eval o).run P w= .ok (.value (.pointer (some ⟨w.heap.size,0,none⟩))) (w.alloc (.cells vs.toArray T))) (m:d<c.N):
  mI P c o a w {σ.swap d .any (.box (ck d .any cs)) with s:=ap (bG d .any σ.s) d (.ref d 0)}:=by
 have hB:Below w.heap.size w (w.alloc (.cells vs.toArray T)):=(Below.refl _ _).alloc (Vs _) _
 have B:∀ b∈[w.heap.size],(w.heap.size<=b\/b∈φ d)/\b<(w.alloc (.cells vs.toArray T)).heap.size:=fun b hb=>by
  simp at hb;subst hb;exact⟨.inl (Vs _),by simp⟩
 have Q:=tP D (id:=d) hB.size (fun b hb _=>hB.block b hb) B
 have j:dp c (σ.swap d .any (.box (ck d .any cs))) (ap κ d (.pointer (some ⟨w.heap.size,0,none⟩))) (ap φ d [w.heap.size]) a (w.alloc (.cells vs.toArray T)):=by
  refine D.swap rfl rfl rfl rfl hB.size (fun b hb _=>hB.block b hb) B oS (by unfold bf;trivial) ?_
  exact⟨w.heap.size,T,vs,[],by rw[aC],heap_alloc_new w _,h2,az.of_S _ _ (tO Q (by unfold bf;trivial) cs vs E),rfl⟩
 refine⟨.value (.pointer (some ⟨w.heap.size,0,none⟩)),w.alloc (.cells vs.toArray T),ap κ d (.pointer (some ⟨w.heap.size,0,none⟩)),ap φ d [w.heap.size],U,.inl ⟨.pointer (some ⟨w.heap.size,0,none⟩),rfl, ?_⟩⟩
 rw[hd]
 exact j.putS (dst:=d) m (by simp only[al];exact⟨w.heap.size,by rw[aC],rfl⟩)
theorem RB (D:dp c σ κ φ a w) {T:Nat} (hi:P.info? T=some i) (hz:i.zero=some z) (hc:z.cells.toList=[.pointer none,.slice none 0 0]) (ty:TypeId) (pos:String) (S:Array Edge) (gd:Option (Nat×Bool)) (m:d<c.N):
  mI P c ⟨some d,.alloc T,ty,pos,S,gd⟩ a w {σ.swap d .any (.bld T e []) with s:=ap (bG d .any σ.s) d (.ref d 0)}:=by
 have f:z.cells=[.pointer none,.slice none 0 0].toArray:=by rw[<-hc,Array.toArray_toList]
 have U:=z_ (P:=P) (a:=a) (w:=w) hi hz f (dst:=some d) (ty:=ty) (pos:=pos) (S:=S) (gd:=gd)
 have hB:Below w.heap.size w (w.alloc (.cells [.pointer none,.slice none 0 0].toArray T)):=(Below.refl _ _).alloc (Vs _) _
 have B:∀ b∈[w.heap.size],(w.heap.size<=b\/b∈φ d)/\b<(w.alloc (.cells [.pointer none,.slice none 0 0].toArray T)).heap.size:=fun b hb=>by
  simp at hb;subst hb;exact⟨.inl (Vs _),by simp⟩
 have j:dp c (σ.swap d .any (.bld T e [])) (ap κ d (.pointer (some ⟨w.heap.size,0,none⟩))) (ap φ d [w.heap.size]) a (w.alloc (.cells [.pointer none,.slice none 0 0].toArray T)):=by
  refine D.swap rfl rfl rfl rfl hB.size (fun b hb _=>hB.block b hb) B oS (by unfold bf;trivial) ?_
  exact⟨w.heap.size,.pointer none,.slice none 0 0,by rw[aC],heap_alloc_new w _,.inl rfl,World.ownsRowF_nil _ _ _ _,rfl⟩
 refine⟨.value (.pointer (some ⟨w.heap.size,0,none⟩)),w.alloc (.cells [.pointer none,.slice none 0 0].toArray T),ap κ d (.pointer (some ⟨w.heap.size,0,none⟩)),ap φ d [w.heap.size],U,.inl ⟨.pointer (some ⟨w.heap.size,0,none⟩),rfl, ?_⟩⟩
 exact j.putS (dst:=d) m (by simp only[al];exact⟨w.heap.size,by rw[aC],rfl⟩)
theorem RC (D:dp c σ κ φ a w) {y:SX} (Z:aP c.N x y=true) (hc:(ev σ.s y).cells?=some cs) (ty:TypeId) (pos:String) (S:Array Edge) (gd:Option (Nat×Bool)) (m:d<c.N):
  mI P c ⟨some d,.box T x,ty,pos,S,gd⟩ a w {σ.swap d .any (.box (ck d .any cs)) with s:=ap (bG d .any σ.s) d (.ref d 0)}:=by
 obtain⟨vs,h1,h2,E⟩:=(aq D Z).cells D.kok hc
 refine M4 D rfl h2 E (T:=T) ?_ m
 simp only[execOp,Instr.box,newVar,newRow,newObj,h1,Sem.run_bind,Sem.run,Result.andThen_ok,Sem.run_pure]
 rfl
theorem M5 (D:dp c σ κ φ a w) {v:SV} (hi:P.info? t=some i) (hz:i.zero=some z) (hv:ur z v=true) (hc:v.cells?=some cs) (ty:TypeId) (pos:String) (S:Array Edge) (gd:Option (Nat×Bool)) (m:d<c.N):
  mI P c ⟨some d,.alloc t,ty,pos,S,gd⟩ a w {σ.swap d .any (.box (ck d .any cs)) with s:=ap (bG d .any σ.s) d (.ref d 0)}:=by
 obtain⟨vs,h1,h2,E⟩:=(sL (w:=w) (M:=own c φ) (κ:=κ) hv).cells D.kok hc
 exact M4 D rfl h2 E (z_ hi hz h1) m
theorem Lu (D:dp c σ κ φ a w) {v:SX} {vs:List SV} (h1:aP c.N x p=true) (h2:aP c.N y v=true) (hi:(P.info? t).isSome=true) (hn:P.cellsOf t=n) (Y:ev σ.s p= .ref id off) (hh:σ.h id= .box cs) (hv:(ev σ.s v).cells?=some vs) (hl:vs.length=n) (s0:off+n<=cs.length) (ty:TypeId) (pos:String) (S:Array Edge) (gd:Option (Nat×Bool)):
  mI P c ⟨none,.store t x y,ty,pos,S,gd⟩ a w ⟨σ.s,ap σ.h id (.box (splice cs off vs))⟩:=by
 have hx:=aq D h1
 rw[Y] at hx
 simp only[al] at hx
 obtain⟨b,r8,hx⟩:=hx
 obtain⟨X,j,d,k⟩:=(aq D h2).cells D.kok hv
 have H:=D.chunks id
 rw[hh] at H
 obtain⟨b',T,g,G,r5,u,r1,V,r4⟩:=H
 rw[r8] at r5;simp at r5;subst r5
 have s2:=k.length
 have h:=V.length
 have U:=M3 (P:=P) (a:=a) hi hn hx j oM d u oT none ty pos S gd
 simp only at U
 obtain⟨A,C,F,f,B⟩:=zc w b (g.take off++X++g.drop (off+X.length)).toArray
 obtain⟨G',J,K⟩:=V.splice k off
 refine⟨.skip,_,κ,ap φ id (b::G'),U,.inr ⟨rfl, ?_⟩⟩
 refine D.modify (F':=b::G') A C F f (fun b' h6=>B b' fun e=>h6 (by rw[r4,e];simp)) (by rw[r4];exact J.cons_cons b) fun Q=> ?_
 refine⟨b,T,_,G',r8,setRow_heap w b _ _ T _ u,C2 r1 d,az.ext Q _ _ _ (fun b' h6=>B b' fun e=> ?_) K,rfl⟩
 have:=D.nod id
 rw[r4] at this
 exact(XK.1 this).1 (by rw[<-e];exact J.subset h6)
theorem HN {i:Nat} {vs:List SV} (W:∀ r∈rows,r.length=sz) (h:az w M κ rows.flatten xs G) (k:av w M κ vs X) (r9:rows[i]?=some r) (s0:off+vs.length<=r.length):
  ∃ G',G'.Sublist G/\az w M κ (rows.set i (splice r off vs)).flatten (xs.take (i * sz+off)++X++xs.drop (i * sz+off+X.length)) G':=by
 rw[vV (sz:=sz) rows i off r vs W r9 s0]
 exact h.splice k _
theorem Lv (D:dp c σ κ φ a w) {v:SX} {i:Nat} {vs:List SV} (h1:aP c.N x p=true) (h2:aP c.N y v=true) (hi:(P.info? t).isSome=true) (hn:P.cellsOf t=n) (Y:ev σ.s p= .vref id sz i off) (hh:σ.h id= .vec e sz rows) (hv:(ev σ.s v).cells?=some vs) (r9:rows[i]?=some r) (hl:vs.length=n) (s0:off+n<=r.length) (ty:TypeId) (pos:String) (S:Array Edge) (gd:Option (Nat×Bool)):
  mI P c ⟨none,.store t x y,ty,pos,S,gd⟩ a w ⟨σ.s,ap σ.h id (.vec e sz (rows.set i (splice r off vs)))⟩:=by
 have hx:=aq D h1
 rw[Y] at hx
 simp only[al] at hx
 obtain⟨b,len,N,r8,hx⟩:=hx
 obtain⟨X,j,d,k⟩:=(aq D h2).cells D.kok hv
 have H:=D.chunks id
 rw[hh] at H
 obtain⟨xs,G,ho,r1,W,V,r4⟩:=H
 have s2:=k.length
 have r6:=V.length
 have Z:=W r (Vq r9)
 have h5:i<rows.length:=(Vr.1 r9).1
 rcases ho.2 with⟨v0,h4⟩|⟨g,h0,I,m,hB,u,z,M,O,s⟩
 ·omega
 ·rw[r8] at m;simp at m
  obtain⟨rfl,rfl,rfl⟩:=m
  have qg:gT (κ id)=[b]:=by rw[r8];rfl
  rw[qg] at r4
  have T:=ho.1
  have o:i * sz+off+X.length<=rows.length * sz:=by
   have h1:(i+1) * sz<=rows.length * sz:=W2 _ h5
   rw[WA] at h1;omega
  have E:rows.length * sz<=N * sz:=W2 _ z
  have U:=M3 (P:=P) (a:=a) hi hn hx j oM d u oM none ty pos S gd
  obtain⟨A,C,F,f,B⟩:=zc w b (I.toList.take (i * sz+off)++X++I.toList.drop (i * sz+off+X.length)).toArray
  obtain⟨G',J,K⟩:=HN (off:=off) W V k r9 oM
  refine⟨.skip,_,κ,ap φ id (b::G'),U,.inr ⟨rfl, ?_⟩⟩
  refine D.modify (F':=b::G') A C F f (fun b' h6=>B b' fun e=>h6 (by rw[r4,e];simp)) (by rw[r4];exact J.cons_cons b) fun Q=> ?_
  refine⟨xs.take (i * sz+off)++X++xs.drop (i * sz+off+X.length),G',⟨?_,.inr ⟨b,N,_,by rw[r8];simp,hB,setRow_heap w b _ _ e _ u,by simpa using z,M, ?_, ?_⟩⟩,C2 r1 d, ?_, ?_,by rw[qg];rfl⟩
  ·simp;omega
  ·simp;omega
  ·simp only[XI]
   rw[<-s,List.take_take,List.drop_take]
   rw[show min (i * sz+off) (rows.length * sz)=i * sz+off by omega]
   rw[Vy,List.take_append,List.take_append]
   simp only[VA,Array.length_toList]
   rw[VO (l:=List.take (i * sz+off) I.toList) oT]
   rw[show min (i * sz+off) I.size=i * sz+off by omega]
   rw[VO (l:=X) oM]
   simp only[Vy]
   congr 3
   omega
  ·intro q hq
   rcases List.mem_or_eq_of_mem_set hq with h|h
   ·exact W q h
   ·subst h;simp[splice];omega
  ·refine az.ext Q _ _ _ (fun b' h6=>B b' fun e=> ?_) K
   have:=D.nod id
   rw[r4] at this
   exact(XK.1 this).1 (by rw[<-e];exact J.subset h6)
theorem uv (v:Value) (h:∀ x,v≠ .pointer x) (h':∀ x,v≠ .map x):vr v=v.ownBlock:=by
 cases v with
 |slice x n c=>cases x<;>rfl
 |pointer x=>exact absurd rfl (h x)
 |map x=>exact absurd rfl (h' x)
 |_=>rfl
theorem Gs (w:World) {ty e:TypeId} (ht:P.underlying t=some (.slice e)) (hi:P.info? e=some i) (hz:i.zero=some z) (h9:w.ownsRow 0 e i.size v n xs) {ad:Addr} {m c:Nat} (hl:k.length=m * i.size) (p:∀ j u,k[j]?=some u->w.cell? (ad.add j)=some u) (h1:∀ u∈k,u.oneCell'=true) (Z:0<m) (d:n+m<=137438953472) (nH:(n+m) * i.bytes<=140737488355328) (U:(Builtin.append_ #[t,t] ty #[v,.slice (some ad) m c]).run P w= .ok v' w'):
  ∀ b,vr v'=some b->w.heap.size<=b\/vr v=some b:=by
 intro b hb
 rcases h9.2 with⟨rfl,rfl⟩|⟨g,N,I,rfl,q,L,A,y,r3,s⟩
 ·rw[VD] at nH
  have:=run_append_nil (P:=P) w t ty e i z ht hi hz ad m c k hl p Z oM oM
  rw[this] at U
  simp only[Result.ok.injEq] at U
  rw[<-U.1] at hb
  simp[vr] at hb
  exact .inl oM
 ·by_cases h:n+m<=N
  ·have o:n * i.size+k.length<=I.size:=by rw[hl,r3,<-WA];exact W2 _ h
   have:=run_append_room (P:=P) w t ty e i ht hi g n N I L ad m c k hl p h1 h o
   rw[this] at U
   simp only[Result.ok.injEq] at U
   rw[<-U.1] at hb
   exact .inr hb
  ·have:=run_append_grow (P:=P) w t ty e i z ht hi hz ⟨g,0,none⟩ n N xs h9.1 (h9.cells (g:=g) rfl) ad m c k hl p oM oM (growslice_fits oM nH)
   rw[this] at U
   simp only[Result.ok.injEq] at U
   rw[<-U.1] at hb
   simp[vr] at hb
   exact .inl oM
theorem Ah {y:SV} {u:Value} (hy:al w M κ y u) (h:sM y=some f) (W:∀ r∈f,r.length=sz):
  ∃ ad N,∃ k:List Value,u= .slice ad f.length N/\av w M κ f.flatten k/\(∀ x∈k,x.oneCell'=true)/\(f=[]/\k=[]\/∃ b o,ad=some ⟨b,o,none⟩/\∀ j v,k[j]?=some v->w.cell? ⟨b,o+j,none⟩=some v):=by
 have plain:(∀ sz n cs,y≠ .lit sz n cs)->∃ ad N,∃ k:List Value,u= .slice ad f.length N/\av w M κ f.flatten k/\(∀ x∈k,x.oneCell'=true)/\(f=[]/\k=[]\/∃ b o,ad=some ⟨b,o,none⟩/\∀ j v,k[j]?=some v->w.cell? ⟨b,o+j,none⟩=some v):=fun U=>by
  have h':∃ rows,y.toDV=some (.slice rows)/\f=rows.map dR:=by
   unfold sM at h
   split at h
   ·rename_i sz n cs;exact absurd rfl (U sz n cs)
   ·split at h
    ·rename_i rows hd;simp only[Vi] at h;exact⟨rows,hd,h.symm⟩
    ·cases h
  obtain⟨rows,hd,rfl⟩:=h'
  have g:=al.toDV _ _ _ hy hd
  unfold bf at g
  obtain⟨ad,N,l,z,d,e⟩:=g
  by_cases q:rows=[]
  ·subst q;exact⟨ad,N,[],l,by simp[av],by simp,.inl ⟨rfl,rfl⟩⟩
  ·rcases e with e|⟨b,o,R,rfl,Z,hb,i⟩
   ·exact absurd e q
   ·rw[bd.iff] at i
    obtain⟨vs,s5,s6,m⟩:=i.2.values
    exact⟨_,N,vs,by simpa using l,by rw[C1];exact M2 s5,s6,.inr ⟨b,o,rfl,m⟩⟩
 cases y with
 |lit R n cs=>
  simp only[sM,Vi] at h
  subst h
  simp only[al] at hy
  obtain⟨b,vs,hv,h1,h2,E,h4,h5,h6⟩:=hy
  refine⟨_,n,vs,by rw[gF];exact hv, ?_,h4,.inr ⟨b,0,rfl,fun j v hj=>by rw[VD];exact h5 j v hj⟩⟩
  rw[ot _ _ _ (by rw[<-h6.length];exact E)]
  exact h6
 |_=>exact plain oS
theorem C3 (D:dp c σ κ φ a w) (E:o.dst=some d) (U:(execOp a.eval o).run P w= .ok (.value v') w') (ho:w.ownsRow 0 e sz (a.eval x') rows.length xs) (r1:∀ x∈xs,x.oneCell'=true) (M:∀ r∈rows,r.length=sz) (V:az w (own c φ) κ rows.flatten xs G) (r4:φ id=gT (a.eval x')++G) (q:w'.ownsRow 0 e sz v' (rows.length+f.length) (xs++k)) (J:w.grownBy w' (a.eval x').ownBlock) (r7:∀ b,vr v'=some b->w.heap.size<=b\/vr (a.eval x')=some b) (h1:av w (own c φ) κ f.flatten k) (h2:∀ x∈k,x.oneCell'=true) (W:∀ r∈f,r.length=sz) (m:d<c.N):
  mI P c o a w (dh σ d id e sz (rows++f)):=by
 have p:∀ (v:Value) (n:Nat) (xs:List Value) (w:World),w.ownsRow 0 e sz v n xs->(∀ x,v≠ .pointer x)/\(∀ x,v≠ .map x)/\v.oneCell'=true:=fun v n xs w h=>by
  rcases h.2 with⟨rfl,_⟩|⟨g,c,u,rfl,_⟩<;>simp[Value.oneCell']
 have C:=p _ _ _ _ ho
 have s:=p _ _ _ _ q
 have z:(a.eval x').ownBlock=vr (a.eval x'):=(uv _ C.1 C.2.1).symm
 have A:∀ b,vr (a.eval x')=some b->b∈φ id:=fun b hb=>by rw[r4];simp[gT,hb]
 have l:∀ b,b<w.heap.size->b∉gT (a.eval x')->w'.heap[b]?=w.heap[b]?:=fun b hb hn=>J.block b hb fun he=>hn (by rw[z] at he;simp[gT,<-he])
 have h9:∀ b,vr v'=some b->b<w'.heap.size:=fun b hb=>(q.lt b (by rw[<-uv _ s.1 s.2.1];exact hb)).2
 have t:∀ b∈G,b∈φ id:=fun b hb=>by rw[r4];simp[hb]
 have B:∀ b∈gT v'++G,(w.heap.size<=b\/b∈φ id)/\b<w'.heap.size:=fun b hb=>by
  rcases VM.1 hb with hb|hb
  ·simp only[gT,Option.mem_toList] at hb
   exact⟨(r7 b hb).imp _root_.id (A b),h9 b hb⟩
  ·exact⟨.inr (t b hb),V_ (D.mine id b (t b hb)).1 J.size⟩
 have i:=D.nod id
 rw[r4] at i
 have r3:(gT v'++G).Nodup:=by
  have hG:=(V6.1 i).2.1
  unfold gT
  cases hb:vr v' with
  |none=>simpa using hG
  |some b=>
   simp only[Option.toList_some,VG,VC,XK]
   refine⟨fun K=> ?_,hG⟩
   rcases r7 b hb with h|h
   ·have:=(D.mine id b (t b K)).1;omega
   ·exact(V6.1 i).2.2 b (by simp[gT,h]) b K rfl
 have y:∀ b,b<w.heap.size->b∉φ id->w'.heap[b]?=w.heap[b]?:=fun b hb hn=>l b hb fun h=>hn (by rw[r4];simp[h])
 have Q:=tP D (id:=id) J.size y B
 have F:∀ b∈G,w'.heap[b]?=w.heap[b]?:=fun b hb=>l b (D.mine id b (t b hb)).1 fun h=>(V6.1 i).2.2 b h b hb rfl
 have j:dp c (σ.swap id .any (.vec e sz (dz id .any (rows++f)))) (ap κ id v') (ap φ id (gT v'++G)) a w':=by
  refine D.swap s.2.2 J.os J.tape J.output J.size y B r3 (by unfold bf;trivial) ?_
  refine⟨xs++k,G,by rw[aC,kM,Vl];exact q,fun x hx=> ?_, ?_, ?_,by rw[aC]⟩
  ·rcases VM.1 hx with hx|hx
   ·exact r1 x hx
   ·exact h2 x hx
  ·refine tN _ _ _ _ fun r h8=> ?_
   rcases VM.1 h8 with h8|h8
   ·exact M r h8
   ·exact W r h8
  ·rw[ml,List.flatten_append]
   refine za Q (by unfold bf;trivial) _ _ _ F ?_
   simpa using V.append (az.of_S _ _ h1)
 refine⟨.value v',w',ap κ id v',ap φ id (gT v'++G),U,.inl ⟨v',rfl, ?_⟩⟩
 rw[E]
 exact j.putS (dst:=d) m (by simp only[al,aC])
theorem Bg (D:dp c σ κ φ a w) {t:Nat} {y:SX} (ha:args.toList=[x',y']) (r0:ts.toList=[t,t]) (hu:P.underlying t=some (.slice e)) (hi:P.info? e=some i) (F:i.size=sz) (X:0<sz) (B:i.bytes<=1024) (hz:i.zero=some z) (R:z.cells.size=sz) (hy:aP c.N y' y=true) (r8:sM (ev σ.s y)=some f) (W:∀ r∈f,r.length=sz) (K:rows.length+f.length<=137438953472) (h9:∃ xs G,w.ownsRow 0 e sz (a.eval x') rows.length xs/\(∀ x∈xs,x.oneCell'=true)/\(∀ r∈rows,r.length=sz)/\az w (own c φ) κ rows.flatten xs G/\φ id=gT (a.eval x')++G) (ty:TypeId) (pos:String) (S:Array Edge) (gd:Option (Nat×Bool)) (m:d<c.N):
  mI P c ⟨some d,.call {callee:= .builtin .append,args,argTypes:=ts},ty,pos,S,gd⟩ a w (dh σ d id e sz (rows++f)):=by
 have e1:args= #[x',y']:=by rw[<-Ws];exact ha
 have e2:ts= #[t,t]:=by rw[<-Ws];exact r0
 subst e1 e2
 obtain⟨xs,G,ho,r1,M,V,r4⟩:=h9
 obtain⟨ad,N,k,l,h1,h2,E⟩:=Ah (aq D hy) r8 W
 have s1:k.length=f.length * sz:=by rw[h1.length,lZ W]
 obtain⟨v',w',U,q,J,r7⟩:∃ v' w',(Builtin.append_ #[t,t] ty #[a.eval x',a.eval y']).run P w= .ok v' w'/\w'.ownsRow 0 e sz v' (rows.length+f.length) (xs++k)/\w.grownBy w' (a.eval x').ownBlock/\∀ b,vr v'=some b->w.heap.size<=b\/vr (a.eval x')=some b:=by
  rcases E with⟨rfl,rfl⟩|⟨b,o,rfl,s⟩
  ·refine⟨a.eval x',w, ?_,by simpa using ho,⟨rfl,rfl,rfl,Vs _,fun _ _ _=>rfl⟩,fun b hb=> .inr hb⟩
   have n:(Builtin.firstCells sz 0 (.slice ad 0 N)).run P w= .ok #[] w:=by
    cases ad<;>simp[Builtin.firstCells,loadCells,loadCellsFrom]
   rcases ho.2 with⟨hv,hn⟩|⟨g,h0,I,hv,_,_,h,_⟩
   ·simp at l
    simp[Builtin.append_,hv,l,run_underlying hu,sizeOf,typeInfo,hi,Builtin.lenOf,F,n]
   ·simp at l
    have H:∀ A:Addr,(storeCells A [] 0).run P w= .ok () w:=fun A=>by simp[storeCells]
    simp[Builtin.append_,hv,l,run_underlying hu,sizeOf,typeInfo,hi,Builtin.lenOf,F,n,h,H]
  ·have nH:(rows.length+f.length) * i.bytes<=140737488355328:=by
    have:=Nat.mul_le_mul K B
    omega
   obtain⟨v',w',h5,r9,r5,_⟩:=run_append_own (P:=P) w 0 t ty e i z sz i.bytes hu hi hz F rfl R X (a.eval x') rows.length xs ho ⟨b,o,none⟩ f.length N k s1 (fun j u hj=>by rw[iC];exact s j u hj) h2 (by simp only[maxLen];omega) nH (V0 _)
   refine⟨v',w',by rw[l];exact h5,r9,r5, ?_⟩
   by_cases v:f.length=0
   ·have p:f=[]:=Vx.1 v
    subst p
    have h4:k=[]:=Vx.1 (by simpa using s1)
    subst h4
    rcases ho.2 with⟨hv,hn⟩|⟨g,h0,I,hv,_,L,h,_,O,_⟩
    ·have:(Builtin.append_ #[t,t] ty #[.slice none 0 0,.slice (some ⟨b,o,none⟩) 0 N]).run P w= .ok (.slice none 0 0) w:=by
      simp[Builtin.append_,run_underlying hu,sizeOf,typeInfo,hi,Builtin.lenOf,Builtin.firstCells,loadCells,loadCellsFrom]
     rw[hv] at h5
     simp only[Vp] at h5
     rw[this] at h5
     simp only[Result.ok.injEq] at h5
     intro b' h6
     rw[<-h5.1] at h6
     simp[vr] at h6
    ·subst F
     have:=run_append_room (P:=P) (ty:=ty) w t e i hu hi g rows.length h0 I L ⟨b,o,none⟩ 0 N [] oS oS oS (by simpa using h) (by simp;rw[O];exact W2 _ h)
     rw[hv] at h5
     simp only[Vp] at h5
     rw[this] at h5
     simp only[Result.ok.injEq] at h5
     intro b' h6
     rw[<-h5.1] at h6
     rw[hv]
     exact .inr h6
   ·subst F
    exact Gs (P:=P) w hu hi hz ho s1 (fun j u hj=>by rw[iC];exact s j u hj) h2 oM K nH h5
 refine C3 D (x':=x') rfl ?_ ho r1 M V r4 q J r7 h1 h2 W m
 obtain⟨cs,r3⟩:=jh (P:=P) (w:=w) (dst:=some d) (ty:=ty) (pos:=pos) (S:=S) (gd:=gd) a.eval .append #[x',y'] #[t,t]
 rw[r3]
 simp only[builtin,Sem.run_bind]
 rw[show(#[x',y'].map a.eval)= #[a.eval x',a.eval y'] by simp,U]
 rfl
theorem Kr (D:dp c σ κ φ a w) {t u:Nat} {l:List UInt8} (ha:args.toList=[x',y']) (r0:ts.toList=[t,u]) (hu:P.underlying t=some (.slice e)) (hs:P.underlying u=some .string) (hi:P.info? e=some i) (F:i.size=1) (B:i.bytes=1) (hz:i.zero=some (.int .u8 0)) (hy:a.eval y'= .string ⟨l.toArray⟩) (K:rows.length+l.length<=137438953472) (h9:∃ xs G,w.ownsRow 0 e 1 (a.eval x') rows.length xs/\(∀ x∈xs,x.oneCell'=true)/\(∀ r∈rows,r.length=1)/\az w (own c φ) κ rows.flatten xs G/\φ id=gT (a.eval x')++G) (ty:TypeId) (pos:String) (S:Array Edge) (gd:Option (Nat×Bool)) (m:d<c.N):
  mI P c ⟨some d,.call {callee:= .builtin .append,args,argTypes:=ts},ty,pos,S,gd⟩ a w (dh σ d id e 1 (rows++l.map fun b=>[.d (.int .u8 b.toNat)])):=by
 have e1:args= #[x',y']:=by rw[<-Ws];exact ha
 have e2:ts= #[t,u]:=by rw[<-Ws];exact r0
 subst e1 e2
 obtain⟨xs,G,ho,r1,M,V,r4⟩:=h9
 have u6:(⟨l.toArray⟩:ByteArray).size=l.length:=by simp[ByteArray.size]
 obtain⟨v',w',U,q,J,_⟩:=Lib.run_append_own_string (P:=P) w 0 t u ty e i hu hs hi hz F B (a.eval x') rows.length xs ho ⟨l.toArray⟩ (by unfold maxLen;omega) oM (V0 _)
 have r7:∀ b,vr v'=some b->w.heap.size<=b\/vr (a.eval x')=some b:=by
  intro b hb
  rcases ho.2 with⟨hv,hn⟩|⟨g,N,I,hv,_,L,A,y,r3,s⟩
  ·by_cases hl:l.length=0
   ·have f:l=[]:=Vx.1 hl
    subst f
    have C:=Lib.run_firstCells_string (P:=P) w 1 ⟨#[]⟩
    have h0:(⟨#[]⟩:ByteArray).size=0:=rfl
    rw[h0] at C
    have:(Builtin.append_ #[t,u] ty #[.slice none 0 0,.string ⟨#[]⟩]).run P w= .ok (.slice none 0 0) w:=by
     simp[Builtin.append_,run_underlying hu,run_underlying hs,sizeOf,typeInfo,hi,F,Builtin.lenOf,h0,C]
    rw[hv] at U
    rw[show(([]:List UInt8).toArray)= #[] from rfl,this] at U
    simp only[Result.ok.injEq] at U
    rw[<-U.1] at hb
    simp[vr] at hb
   ·have:=run_append_nil_string (P:=P) w t u ty e i (.int .u8 0) hu hs hi hz ⟨l.toArray⟩ oM oM (by rw[B];omega)
    rw[hv,this] at U
    simp only[Result.ok.injEq] at U
    rw[<-U.1] at hb
    simp[vr] at hb
    exact .inl oM
  ·rw[hv] at U⊢
   by_cases h:rows.length+(⟨l.toArray⟩:ByteArray).size<=N
   ·have:=Lib.run_append_room_string (P:=P) w t u ty e i hu hs hi F g rows.length N I L ⟨l.toArray⟩ h oM
    rw[this] at U
    simp only[Result.ok.injEq] at U
    rw[<-U.1] at hb
    exact .inr hb
   ·have r6:xs.length=rows.length * i.size:=by rw[F];exact ho.1
    have:=Lib.run_append_grow_string (P:=P) w t u ty e i (.int .u8 0) hu hs hi hz ⟨g,0,none⟩ rows.length N xs r6 (ho.cells (g:=g) (by rw[hv];rfl)) ⟨l.toArray⟩ oM oM (by rw[B];exact growslice_fits oM oM)
    rw[this] at U
    simp only[Result.ok.injEq] at U
    rw[<-U.1] at hb
    simp[vr] at hb
    exact .inl oM
 have p:∀ (r:List UInt8),av w (own c φ) κ (r.map fun b=>[SV.d (.int .u8 b.toNat)]).flatten (r.map fun b=>Value.int .u8 b.toNat):=by
  intro r
  induction r with
  |nil=>simp[av]
  |cons b r ih=>
   simp only[VF,V4,VG,VC,av]
   exact⟨_,_,rfl,by simp only[al,bf],ih⟩
 refine C3 D (x':=x') (k:=Lib.strCells ⟨l.toArray⟩) rfl ?_ ho r1 M V r4 (by rw[Wj,<-u6];exact q) J r7 (p l) (Lib.strCells_oneCell _) (by intro r D;obtain⟨b,_,rfl⟩:=VT.1 D;rfl) m
 obtain⟨cs,r3⟩:=jh (P:=P) (w:=w) (dst:=some d) (ty:=ty) (pos:=pos) (S:=S) (gd:=gd) a.eval .append #[x',y'] #[t,u]
 rw[r3]
 simp only[builtin,Sem.run_bind]
 rw[show(#[x',y'].map a.eval)= #[a.eval x',a.eval y'] by simp,hy,U]
 rfl
theorem HO (D:dp c σ κ φ a w) (hd:o.dst=some d) (U:(execOp a.eval o).run P w= .ok (.value v') w') (hB:Below w.heap.size w w') (ho:w'.ownsRow 0 e sz v' rows.length xs) (r1:∀ x∈xs,x.oneCell'=true) (W:∀ r∈rows,r.length=sz) (V:av w (own c φ) κ rows.flatten xs) (f:∀ b,vr v'=some b->w.heap.size<=b) (m:d<c.N):
  mI P c o a w (dh σ d d e sz rows):=by
 have hs:(∀ x,v'≠ .pointer x)/\(∀ x,v'≠ .map x)/\v'.oneCell'=true:=by
  rcases ho.2 with⟨rfl,_⟩|⟨g,c,u,rfl,_⟩<;>simp[Value.oneCell']
 have h9:∀ b,vr v'=some b->b<w'.heap.size:=fun b hb=>(ho.lt b (by rw[<-uv _ hs.1 hs.2.1];exact hb)).2
 have B:∀ b∈gT v',(w.heap.size<=b\/b∈φ d)/\b<w'.heap.size:=fun b hb=>by
  simp only[gT,Option.mem_toList] at hb;exact⟨.inl (f b hb),h9 b hb⟩
 have Q:=tP D (id:=d) hB.size (fun b hb _=>hB.block b hb) B
 have j:dp c (σ.swap d .any (.vec e sz (dz d .any rows))) (ap κ d v') (ap φ d (gT v')) a w':=by
  refine D.swap hs.2.2 hB.os hB.tape hB.output hB.size (fun b hb _=>hB.block b hb) B (by unfold gT;cases vr v'<;>simp) (by unfold bf;trivial) ?_
  refine⟨xs,[],by rw[aC,kM];exact ho,r1,tN _ _ _ _ W, ?_,by rw[aC,VL]⟩
  rw[ml]
  exact az.of_S _ _ (tO Q (by unfold bf;trivial) _ _ V)
 refine⟨.value v',w',ap κ d v',ap φ d (gT v'),U,.inl ⟨v',rfl, ?_⟩⟩
 rw[hd]
 exact j.putS (dst:=d) m (by simp only[al,aC])
theorem Bh (w:World) {N:Nat} {more:Array Value} (hl:xs.length=n * sz) (hn:n<=N) (hc:N<=maxLen) (Z:more.size=(N - n) * sz):
  (w.alloc (.cells (xs.toArray++more) e)).ownsRow 0 e sz (.slice (some ⟨w.heap.size,0,none⟩) n N) n xs:=by
 refine⟨hl,.inr ⟨w.heap.size,N,_,rfl,V0 _,heap_alloc_new w _,hn,hc, ?_, ?_⟩⟩
 ·simp only[Array.size_append,List.size_toArray,hl,Z,<-WA]
  congr 1;omega
 ·simp[<-hl]
theorem RD (D:dp c σ κ φ a w) {t:Nat} {o:Array (Nat×Operand)} {xs:List SV} (hu:P.underlying t=some (.slice e)) (hi:P.info? e=some i) (F:i.size=sz) (X:0<sz) (K:n * sz<=16777216) (hz:i.zero=some z) (R:z.cells.size=sz) (hn:n=o.size) (T:av w (own c φ) κ xs (o.toList.map fun q=>a.eval q.2)) (s1:∀ (j:Nat) q,o.toList[j]?=some q->q.1=j) (Q:lY sz xs=some cs) (ty:TypeId) (pos:String) (S:Array Edge) (gd:Option (Nat×Bool)) (m:d<c.N):mI P c ⟨some d,.buildSlice t n o,ty,pos,S,gd⟩ a w (dh σ d d e sz (f_ sz xs.length cs)):=by
 obtain⟨rs,U,h1,h2,E⟩:=Jk (dst:=some d) (ty:=ty) (pos:=pos) (S:=S) (gd:=gd) D.kok hu hi F X K hz R hn T s1 Q
 have r6:xs.length=n:=by have:=T.length;simp[hn] at this⊢;omega
 have h6:cs.length=n * sz:=by have:=E.length;omega
 have p:n<=maxLen:=by
  have:n<=n * sz:=Nat.le_mul_of_pos_right n X
  unfold maxLen;omega
 rw[r6]
 refine HO D rfl U ((Below.refl _ w).alloc (Vs _) _) (xs:=rs.flatten) ?_ h2 ?_ ?_ ?_ m
 ·rw[gF]
  have:=Bh w (e:=e) (more:= #[]) h1 (Vs _) p oS
  simpa using this
 ·exact uq sz n cs h6
 ·rw[ot sz n cs h6];exact E
 ·intro b hb
  simp only[vr,Vi] at hb
  omega
theorem Jq (D:dp c σ κ φ a w) {t:Nat} {x y:SX} (ha:args.toList=[x',y']) (r0:ts.toList=[t,t]) (hu:P.underlying t=some (.slice e)) (hi:P.info? e=some i) (F:i.size=sz) (B:i.bytes<=1024) (hz:i.zero=some z) (R:z.cells.size=sz) (hx:aP c.N x' x=true) (T:ev σ.s x= .lit sz n cs) (hy:aP c.N y' y=true) (r8:sM (ev σ.s y)=some f) (X:0<f.length) (W:∀ r∈f,r.length=sz) (K:n+f.length<=137438953472) (ty:TypeId) (pos:String) (S:Array Edge) (gd:Option (Nat×Bool)) (m:d<c.N):
  mI P c ⟨some d,.call {callee:= .builtin .append,args,argTypes:=ts},ty,pos,S,gd⟩ a w (dh σ d d e sz (f_ sz n cs++f)):=by
 have e1:args= #[x',y']:=by rw[<-Ws];exact ha
 have e2:ts= #[t,t]:=by rw[<-Ws];exact r0
 subst e1 e2
 subst F
 have q:=aq D hx
 rw[T] at q
 simp only[al] at q
 obtain⟨g,vs,h,g1,g2,g3,g4,g5,g6⟩:=q
 obtain⟨ad,N,k,l,h1,h2,E⟩:=Ah (aq D hy) r8 W
 have s1:k.length=f.length * i.size:=by rw[h1.length,lZ W]
 rcases E with⟨rfl,rfl⟩|⟨b,o,rfl,s⟩
 ·simp at X
 have nH:(n+f.length) * i.bytes<=140737488355328:=by
  have:=Nat.mul_le_mul K B
  omega
 have U:=run_append_grow (P:=P) w t ty e i z hu hi hz ⟨g,0,none⟩ n n vs g3 (fun j v hj=>by rw[iC,VD];exact g5 j v hj) ⟨b,o,none⟩ f.length N k s1 (fun j u hj=>by rw[iC];exact s j u hj) oM oM (growslice_fits oM nH)
 have h6:cs.length=n * i.size:=by rw[<-g6.length];exact g3
 refine HO D (v':= .slice (some ⟨w.heap.size,0,none⟩) (n+f.length) (grownCap w (n+f.length) n e)) (xs:=vs++k) rfl (w':=w.drew.alloc (.cells (vs.toArray++k.toArray++Builtin.zeroCells z.cells (grownCap w (n+f.length) n e - (n+f.length))) e)) ?_ ?_ ?_ ?_ ?_ ?_ ?_ m
 ·obtain⟨C,r3⟩:=jh (P:=P) (w:=w) (dst:=some d) (ty:=ty) (pos:=pos) (S:=S) (gd:=gd) a.eval .append #[x',y'] #[t,t]
  rw[r3]
  simp only[builtin,Sem.run_bind]
  rw[show(#[x',y'].map a.eval)= #[a.eval x',a.eval y'] by simp,h,l,U]
  rfl
 ·exact((Below.refl _ _).drew).alloc (Vs _) _
 ·have:=Bh w.drew (e:=e) (sz:=i.size) (n:=n+f.length) (N:=grownCap w (n+f.length) n e) (xs:=vs++k) (more:=Builtin.zeroCells z.cells (grownCap w (n+f.length) n e - (n+f.length))) (by simp[g3,s1,WA]) (grownCap_ge _ _ _ _) (grownCap_le_maxLen _ _ _ _ (by simp only[maxLen];omega)) (by rw[size_zeroCells,R])
  have e3:(vs++k).toArray=vs.toArray++k.toArray:=by simp
  rw[e3] at this
  rw[Vl,gF]
  exact this
 ·intro x hx
  rcases VM.1 hx with hx|hx
  ·exact g4 x hx
  ·exact h2 x hx
 ·intro r h8
  rcases VM.1 h8 with h8|h8
  ·exact uq _ _ _ h6 r h8
  ·exact W r h8
 ·rw[List.flatten_append,ot _ _ _ h6]
  exact g6.append h1
 ·intro b hb;simp[vr] at hb;omega
theorem M6 (D:dp c σ κ φ a w) {t e':Nat} {hi:Operand} {y h:SX} {k:IntKind} {n:Int} (hu:P.underlying t=some (.slice e)) (h5:(P.info? e).isSome=true) (F:P.cellsOf e=sz) (hx:aP c.N x y=true) (hh:aP c.N hi h=true) (T:ev σ.s y= .vec id) (C:ev σ.s h= .d (.int k n)) (hv:σ.h id= .vec e' sz rows) (h0:0<=n) (hn:n<=rows.length) (ty:TypeId) (pos:String) (S:Array Edge) (gd:Option (Nat×Bool)) (m:d<c.N):
  mI P c ⟨some d,.slice t x none (some hi) none,ty,pos,S,gd⟩ a w (dh σ d id e' sz (rows.take n.toNat)):=by
 have q:=aq D hx
 rw[T] at q
 simp only[al] at q
 have u:=aq D hh
 rw[C] at u
 simp only[al,bf] at u
 have H:=D.chunks id
 rw[hv] at H
 obtain⟨xs,G,ho,r1,W,V,r4⟩:=H
 have o:n.toNat<=rows.length:=by omega
 obtain⟨ad,N,i,h6,r7,ho'⟩:∃ ad N,κ id= .slice ad rows.length N/\rows.length<=N/\gT (.slice ad n.toNat N)=gT (κ id)/\w.ownsRow 0 e' sz (.slice ad n.toNat N) n.toNat (xs.take (n.toNat * sz)):=by
  have r6:(xs.take (n.toNat * sz)).length=n.toNat * sz:=by
   rw[VA,ho.1,WV (W2 _ o)]
  rcases ho.2 with⟨hk,hz⟩|⟨g,N,I,hk,hB,L,z,M,O,s⟩
  ·refine⟨none,0,by rw[hk,hz],by omega,by rw[hk];rfl,r6,.inl ⟨by congr 1;omega,by omega⟩⟩
  ·refine⟨some ⟨g,0,none⟩,N,hk,z,by rw[hk];rfl,r6,.inr ⟨g,N,I,rfl,hB,L,by omega,M,O, ?_⟩⟩
   rw[<-s,List.take_take,WV (W2 _ o)]
 have v:=q.trans i
 have w1:=rO (P:=P) (w:=w) (p:=true) (len:=rows.length) (N:=N) (lo:=none) (hi:=some (a.eval hi)) (l:=none) (h:=some n) (.inl ⟨rfl,rfl⟩) (.inr ⟨k,n,by rw[u],rfl⟩) oS (by simpa using h0) (by simpa using hn) h6
 have U:(execOp a.eval ⟨some d,.slice t x none (some hi) none,ty,pos,S,gd⟩).run P w= .ok (.value (.slice ad n.toNat N)) w:=by
  simp only[execOp,Instr.sliceAt,Instr.slice,Sem.run_bind,run_underlying hu,Result.andThen_ok,v,Xw,WJ,w1,f5 h5]
  simp
  cases ad with
  |none=>simp
  |some A=>simp[Addr.add]
 obtain⟨G',J,K⟩:=V.take (n.toNat * sz)
 have R:(rows.take n.toNat).flatten=rows.flatten.take (n.toNat * sz):=by
  have E:rows.flatten=(rows.take n.toNat).flatten++(rows.drop n.toNat).flatten:=by rw[<-List.flatten_append,VH]
  have hl:(rows.take n.toNat).flatten.length=n.toNat * sz:=by rw[lZ (sz:=sz) fun r D=>W r (VU D),VA,WV o]
  rw[E,WY oM]
  exact(VO oM).symm
 have f:(gT (κ id)++G').Sublist (φ id):=by rw[r4];exact XF (W3 _) J
 have B:∀ b∈gT (κ id)++G',(w.heap.size<=b\/b∈φ id)/\b<w.heap.size:=fun b hb=>⟨.inr (f.subset hb),(D.mine id b (f.subset hb)).1⟩
 have Q:=tP D (id:=id) (Vs _) (fun b _ _=>rfl) B
 have j:dp c (σ.swap id .any (.vec e' sz (dz id .any (rows.take n.toNat)))) (ap κ id (.slice ad n.toNat N)) (ap φ id (gT (κ id)++G')) a w:=by
  refine D.swap rfl rfl rfl rfl (Vs _) (fun b _ _=>rfl) B ((D.nod id).sublist f) (by unfold bf;trivial) ?_
  refine⟨xs.take (n.toNat * sz),G', ?_,fun x hx=>r1 x (VU hx),tN _ _ _ _ fun r D=>W r (VU D), ?_,by rw[aC,r7]⟩
  ·rw[aC,kM,VA,WV o];exact ho'
  ·rw[ml,R]
   exact za Q (by unfold bf;trivial) _ _ _ (fun _ _=>rfl) K
 refine⟨.value (.slice ad n.toNat N),w,_,_,U,.inl ⟨_,rfl,j.putS (dst:=d) m (by simp only[al,aC])⟩⟩
theorem M7 (D:dp c σ κ φ a w) (kk:KK) (ty:TypeId) (pos:String) (S:Array Edge) (gd:Option (Nat×Bool)) (m:d<c.N):
  mI P c ⟨some d,.makeMap t none,ty,pos,S,gd⟩ a w {σ.swap d .any (.map kk []) with s:=ap (bG d .any σ.s) d (.mp d)}:=by
 have hB:Below w.heap.size w (w.alloc (.map #[] 0)):=(Below.refl _ _).alloc (Vs _) _
 have B:∀ b∈[w.heap.size],(w.heap.size<=b\/b∈φ d)/\b<(w.alloc (.map #[] 0)).heap.size:=fun b hb=>by
  simp at hb;subst hb;exact⟨.inl (Vs _),by simp⟩
 have j:dp c (σ.swap d .any (.map kk [])) (ap κ d (.map (some w.heap.size))) (ap φ d [w.heap.size]) a (w.alloc (.map #[] 0)):=by
  refine D.swap rfl rfl rfl rfl hB.size (fun b hb _=>hB.block b hb) B oS (by unfold bf;trivial) ?_
  exact⟨w.heap.size,[],0,[],by rw[aC],heap_alloc_new w _,⟨(fun _ he=>nomatch he),List.nodup_nil⟩,by unfold bQ;exact⟨rfl,rfl⟩,rfl⟩
 refine⟨.value (.map (some w.heap.size)),w.alloc (.map #[] 0),ap κ d (.map (some w.heap.size)),ap φ d [w.heap.size], ?_,.inl ⟨.map (some w.heap.size),rfl, ?_⟩⟩
 ·simp only[execOp,Instr.makeMap,newObj,Sem.run_bind,Sem.run,Result.andThen_ok,Sem.run_pure,Xw]
  rfl
 ·exact j.putS (dst:=d) m (by simp only[al,aC])
theorem Gt {x:DV} (C:kk.fits x=true) (hk:k_ x=some v) (n:Nat):Instr.sameBits n v v=true:=by
 cases kk<;>cases x<;>simp[KK.fits] at C<;>simp[k_] at hk<;>subst hk<;>simp[Instr.sameBits,Ac]
theorem Lw {k:Value} (h:Ja es K):Ja (es++[{key:=k,val:=v,born:=K}]) (K+1):=by
 refine⟨fun e he=> ?_, ?_⟩
 ·rcases VM.1 he with he|he
  ·have:=h.1 e he;omega
  ·simp only[V1] at he;subst he;exact Nat.lt_succ_self _
 ·rw[Wq,V6]
  refine⟨h.2,by simp,fun a ha b hb=> ?_⟩
  obtain⟨e,he,rfl⟩:=VT.1 ha
  simp only[VF,WG,V1] at hb
  subst hb
  have:=h.1 e he
  omega
theorem HP {j:Nat} {k:Value} (h:Ja es K):Ja (es.modify j fun e=>{e with key:=k,val:=v}) K:=by
 have Z:(es.modify j fun e=>{e with key:=k,val:=v}).map (·.born)=es.map (·.born):=by
  apply List.ext_getElem?
  intro i
  simp only[V5,List.getElem?_modify]
  by_cases r0:j=i
  ·subst r0;cases es[j]?<;>simp
  ·simp[r0]
 refine⟨fun e he=> ?_,by rw[Z];exact h.2⟩
 have h1:e.born∈es.map (·.born):=by rw[<-Z];exact List.mem_map_of_mem he
 obtain⟨e',g,h2⟩:=VT.1 h1
 have:=h.1 e' g
 omega
theorem Pr (D:dp c σ κ φ a w) {kt e:TypeId} {z:Operand} {m k v:SX} {kv:List (DV×SV)} {F:DV} (h1:aP c.N x m=true) (h2:aP c.N y k=true) (E:aP c.N z v=true) (ht:P.underlying t=some (.map kt e)) (hk:Gh P kt=some kk) (Z:ev σ.s m= .mp id) (h:ev σ.s k= .d F) (hh:σ.h id= .map kk kv) (C:kk.fits F=true) (ty:TypeId) (pos:String) (S:Array Edge) (gd:Option (Nat×Bool)):
  mI P c ⟨none,.mapUpdate t x y z,ty,pos,S,gd⟩ a w ⟨σ.s,ap σ.h id (.map kk (pq kv F (ev σ.s v)))⟩:=by
 have hx:=aq D h1
 have hy:=aq D h2
 have hz:=aq D E
 rw[Z] at hx
 rw[h] at hy
 simp only[al] at hx
 have H:=D.chunks id
 rw[hh] at H
 obtain⟨r,es,K,G,M,u,i,s3,r4⟩:=H
 have r3:=hx.trans M
 have d:=xi hk
 have f:=Fc C hy.d
 have n:∀ b,(Instr.checkKey b 10000 kt (a.eval y)).run P w= .ok () w:=fun b=>vS d _ 9999
 have h9:(getObj r).run P w= .ok (.map es.toArray K) w:=by simp[getObj,Sem.run,u]
 have B:∀ o,(setObj r o).run P w= .ok () {w with heap:=w.heap.setIfInBounds r o}:=fun o=>by simp[setObj,Sem.run,u]
 have N:r<w.heap.size:=(VV.1 u).1
 have fin:∀ (g:List MapEntry) (T:Nat) (G':List Nat),G'.Sublist G->Ja g T->bQ w (own c φ) κ kk (pq kv F (ev σ.s v)) g G'->
   dp c ⟨σ.s,ap σ.h id (.map kk (pq kv F (ev σ.s v)))⟩ κ (ap φ id (r::G')) a {w with heap:=w.heap.setIfInBounds r (.map g.toArray T)}:=fun g T G' J O R=>by
  have s:∀ b,b≠r->({w with heap:=w.heap.setIfInBounds r (.map g.toArray T)}:World).heap[b]?=w.heap[b]?:=fun b hb=>by
   simp[Array.getElem?_setIfInBounds_ne (Ne.symm hb)]
  refine D.modify rfl rfl rfl oS (fun b hb=>s b fun e=>hb (by rw[r4,e];simp)) (by rw[r4];exact J.cons_cons r) fun Q=> ?_
  refine⟨r,g,T,G',M,by simp[N],O,bQ.ext Q _ _ _ (fun b hb=>s b fun e=> ?_) R,rfl⟩
  have:=D.nod id
  rw[r4] at this
  exact(XK.1 this).1 (by rw[<-e];exact J.subset hb)
 cases L:po kv F with
 |none=>
  have l:=y6 (P:=P) (w:=w) d (Ad C f 0 s3 L)
  refine⟨.skip,_,κ,ap φ id (r::G), ?_,.inr ⟨rfl,fin (es++[{key:=a.eval y,val:=a.eval z,born:=K}]) (K+1) G (W3 _) (Lw i) ?_⟩⟩
  ·simp only[execOp,Instr.mapUpdate,Sem.run_bind,run_underlying ht,Result.andThen_ok,r3,h9,n,l,B,Sem.run_pure]
   simp
  ·simpa using HH (b:=K) C f s3 L (ev σ.s v) (a.eval z) [] (aT.of_S _ _ hz)
 |some d'=>
  obtain⟨j,e',p,I,q,g1,g2,U,g3,g4,g5⟩:=Ae C f 0 s3 L
  have l:=y6 (P:=P) (w:=w) d g2
  have A:(Instr.keyThatStays e'.key (a.eval y)).run P w= .ok (a.eval y) w:=by
   rw[g4]
   simp[Instr.keyThatStays,Gt C f]
  refine⟨.skip,_,κ,ap φ id (r::(p++[]++q)), ?_,.inr ⟨rfl,fin (es.modify j fun e=>{e with key:=a.eval y,val:=a.eval z}) K (p++[]++q) ?_ (HP i) (g5 _ _ [] (aT.of_S _ _ hz))⟩⟩
  ·simp only[VD] at l
   simp only[execOp,Instr.mapUpdate,Sem.run_bind,run_underlying ht,Result.andThen_ok,r3,h9,n,l,List.getElem?_toArray,g1,WJ,Wi,A,B,Sem.run_pure,List.modify_toArray]
  ·rw[U]
   exact XF (XF (W3 _) (List.nil_sublist _)) (W3 _)
end
