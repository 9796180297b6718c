/-
  My text.
-/
import Derived.Test.YtgmnipfafmphaaaGreatDoorSYEngH
import Derived.Lib.AppendStr
namespace Go.Proofs.YtgmnipfafmphaaaGreatDoor
set_option linter.unusedSimpArgs false
set_option linter.unusedVariables false
open Go.RowKit
inductive NB where
 |boxM (x:SX)
 |st (n:Nat) (p v:SX)
 |app (e sz:Nat) (x y:SX)
 |appS (e:Nat) (x y:SX)
 |mkmap (kk:KK)
 |mset (kk:KK) (m k v:SX)
 |trunc (sz:Nat) (x hi:SX)
 |slM (e sz:Nat) (xs:List SX)
 |bldM (T e:Nat)
variable {G:List Nat} {M:Nat->Prop} {R:List Value} {T:TypeId} {args:Array Operand} {b:Nat} {cs:List SV} {d e:Nat} {es:List MapEntry} {f:List (List SV)} {i:TypeInfo} {id:Nat} {k:List Value} {kk:KK} {n:Nat} {o:Oper} {off:Nat} {p:SX} {r:List SV} {rows:List (List SV)} {s sz:Nat} {t:TypeId} {ts:Array TypeId} {v v':Value} {vs:List Value} {w':World} {x x':Operand} {xs:List Value} {y y':Operand} {z:Value}
def splice {α:Type} (cs:List α) (off:Nat) (vs:List α):List α:=cs.take off++vs++cs.drop (off+vs.length)
def cy (σ:St) (dst id e sz:Nat) (rows:List (List SV)):St:=
 {σ.swap id .any (.vec e sz (c0 id .any rows)) with s:=am (bl id .any σ.s) dst (.vec id)}
def dR (r:List DV):List SV:=r.map .d
def pM:SV->Option (List (List SV))
 | .lit sz n cs=>some (eQ sz n cs)
 |x=>match x.toDV with|some (.slice rows)=>some (rows.map dR)|_=>none
def wr (σ:St) (dst:Nat):NB->Option (Prop×St)
 | .boxM x=>match(ev σ.s x).cells? with
  |some cs=>some (True,{σ.swap dst .any (.box (cm dst .any cs)) with s:=am (bl dst .any σ.s) dst (.ref dst 0)})
  |none=>none
 | .st n p v=>match ev σ.s p with
  | .ref id off=>match σ.h id,(ev σ.s v).cells? with
   | .box cs,some vs=>some (vs.length=n/\off+n<=cs.length,⟨σ.s,am σ.h id (.box (splice cs off vs))⟩)
   |_,_=>none
  | .vref id sz i off=>match σ.h id,(ev σ.s v).cells? with
   | .vec e Q rows,some vs=>match rows[i]? with
    |some r=>some (Q=sz/\vs.length=n/\off+n<=r.length,⟨σ.s,am σ.h id (.vec e Q (rows.set i (splice r off vs)))⟩)
    |none=>none
   |_,_=>none
  |_=>none
 | .app e sz x y=>match ev σ.s x,pM (ev σ.s y) with
  | .vec id,some f=>match σ.h id with
   | .vec e' Q rows=>some (e'=e/\Q=sz/\(∀ r∈f,r.length=sz)/\rows.length+f.length<=137438953472,cy σ dst id e sz (rows++f))
   |_=>none
  | .nils,some f=>some ((∀ r∈f,r.length=sz)/\f.length<=137438953472,cy σ dst dst e sz f)
  | .lit Q n cs,some f=>some (Q=sz/\0<f.length/\(∀ r∈f,r.length=sz)/\n+f.length<=137438953472,cy σ dst dst e sz (eQ sz n cs++f))
  |_,_=>none
 | .appS e x y=>match ev σ.s x,ev σ.s y with
  | .vec id,.d (.str l)=>match σ.h id with
   | .vec e' Q rows=>some (e'=e/\Q=1/\rows.length+l.length<=137438953472,cy σ dst id e 1 (rows++l.map fun b=>[.d (.int .u8 b.toNat)]))
   |_=>none
  | .nils,.d (.str l)=>some (l.length<=137438953472,cy σ dst dst e 1 (l.map fun b=>[.d (.int .u8 b.toNat)]))
  |_,_=>none
 | .mkmap kk=>some (True,{σ.swap dst .any (.map kk []) with s:=am (bl dst .any σ.s) dst (.mp dst)})
 | .mset kk m k v=>match ev σ.s m,ev σ.s k with
  | .mp id,.d x=>match σ.h id with
   | .map v2 kv=>some (v2=kk/\kk.fits x=true,⟨σ.s,am σ.h id (.map kk (mg kv x (ev σ.s v)))⟩)
   |_=>none
  |_,_=>none
 | .trunc sz x hi=>match ev σ.s x,ev σ.s hi with
  | .vec id,.d (.int _ n)=>match σ.h id with
   | .vec e Q rows=>some (Q=sz/\0<=n/\n<=rows.length,cy σ dst id e sz (rows.take n.toNat))
   |_=>none
  |_,_=>none
 | .slM e sz xs=>match iX sz (xs.map (ev σ.s)) with
  |some cs=>some (True,cy σ dst dst e sz (eQ sz xs.length cs))
  |none=>none
 | .bldM T e=>some (True,{σ.swap dst .any (.bld T e []) with s:=am (bl dst .any σ.s) dst (.ref dst 0)})
def lA (P:Program) (N:Nat) (op:Op) (dst:Option Tmp) (d:Nat):NB->Bool
 | .boxM y=>dst==some d&&decide (d<N)&&(match op with
  | .box _ x=>aH N x y
  | .alloc t=>Fh P t y
  |_=>false)
 | .st n p v=>dst==none&&(match op with
  | .store t x y=>aH N x p&&aH N y v&&(P.info? t).isSome&&P.cellsOf t==n
  |_=>false)
 | .app e sz x y=>dst==some d&&decide (d<N)&&(match op with
  | .call {callee:= .builtin .append,args,argTypes}=>(match args.toList,argTypes.toList with
   |[x',y'],[t,t']=>aH N x' x&&aH N y' y&&t==t'&&(match P.underlying t with
    |some (.slice e')=>e'==e&&(match P.info? e with|some i=>i.size==sz&&decide (0<sz)&&decide (i.bytes<=1024)&&(match i.zero with|some z=>z.cells.size==sz|none=>false)|none=>false)
    |_=>false)
   |_,_=>false)
  |_=>false)
 | .appS e x y=>dst==some d&&decide (d<N)&&(match op with
  | .call {callee:= .builtin .append,args,argTypes}=>(match args.toList,argTypes.toList with
   |[x',y'],[t,t']=>aH N x' x&&aH N y' y&&(match P.underlying t' with|some .string=>true|_=>false)&&(match P.underlying t with
    |some (.slice e')=>e'==e&&(match P.info? e with|some i=>i.size==1&&i.bytes==1&&(match i.zero with|some (.int .u8 0)=>true|_=>false)|none=>false)
    |_=>false)
   |_,_=>false)
  |_=>false)
 | .mkmap kk=>dst==some d&&decide (d<N)&&(match op with
  | .makeMap t none=>(match P.underlying t with|some (.map kt _)=>DQ P kt==some kk|_=>false)
  |_=>false)
 | .mset kk m k v=>dst==none&&(match op with
  | .mapUpdate t x y z=>aH N x m&&aH N y k&&aH N z v&&(match P.underlying t with|some (.map kt _)=>DQ P kt==some kk|_=>false)
  |_=>false)
 | .trunc sz y h=>dst==some d&&decide (d<N)&&(match op with
  | .slice t x none (some hi) none=>aH N x y&&aH N hi h&&(match P.underlying t with|some (.slice e)=>(P.info? e).isSome&&P.cellsOf e==sz&&decide (0<sz)|_=>false)
  |_=>false)
 | .slM e sz xs=>dst==some d&&decide (d<N)&&(match op with
  | .buildSlice t n o=>n==o.size&&mD N 0 o.toList xs&&(match P.underlying t with
   |some (.slice e')=>e'==e&&(match P.info? e' with|some i=>i.size==sz&&decide (0<sz)&&decide (n * sz<=16777216)&&(match i.zero with|some z=>z.cells.size==sz|none=>false)|none=>false)
   |_=>false)
  |_=>false)
 | .bldM T _=>dst==some d&&decide (d<N)&&(match op with
  | .alloc t=>t==T&&(match P.info? t with|some i=>(match i.zero with|some z=>(match z.cells.toList with|[.pointer none,.slice none 0 0]=>true|_=>false)|none=>false)|none=>false)
  |_=>false)
section
variable {P:Program} {c:Cx} {σ:St} {κ:Nat->Value} {φ:Nat->List Nat} {a:Act} {w:World}
theorem K3 {cs:List DV} (h:aC w M cs vs):an w M κ (dR cs) vs:=an.of_d h
theorem Ah (rows:List (List DV)):(rows.map dR).flatten=dR rows.flatten:=by
 induction rows with
 |nil=>rfl
 |cons r rows ih=>simp[dR] at ih⊢;exact ih
theorem Ai {g:List Value} (h:∀ x∈R,x.oneCell'=true) (k:∀ x∈g,x.oneCell'=true):∀ x∈R.take off++g++R.drop (off+g.length),x.oneCell'=true:=by
 intro x hx
 simp only[Te] at hx
 rcases hx with(hx|hx)|hx
 ·exact h x (Tv hx)
 ·exact k x hx
 ·exact h x (Ua hx)
theorem sF {sz:Nat}:∀ (rows:List (List SV)) (i off:Nat) (r vs:List SV),(∀ q∈rows,q.length=sz)->rows[i]?=some r->off+vs.length<=r.length->
  (rows.set i (splice r off vs)).flatten=splice rows.flatten (i * sz+off) vs
 |[],i,off,r,vs,_,h,_=>by simp at h
 |q::rows,0,off,r,vs,W,h,s0=>by
  simp at h;subst h
  simp only[U1,TF,Ve,Tx,splice]
  rw[Ur oM,List.drop_append_of_le_length oM]
  simp
 |q::rows,i+1,off,r,vs,W,h,s0=>by
  have hq:=W q oS
  have ih:=sF (sz:=sz) rows i off r vs (fun q hq=>W q (by simp[hq])) (by simpa using h) s0
  simp only[List.set_cons_succ,TF]
  rw[ih]
  unfold splice
  rw[show(i+1) * sz+off=q.length+(i * sz+off) by rw[T8];omega]
  rw[List.take_length_add_append,show q.length+(i * sz+off)+vs.length=q.length+(i * sz+off+vs.length) by omega,List.drop_length_add_append]
  simp
theorem wh (w:World) (g:Nat) (cs:Array Value):(w.setRow g cs).os=w.os/\(w.setRow g cs).tape=w.tape/\(w.setRow g cs).output=w.output/\(w.setRow g cs).heap.size=w.heap.size/\∀ b,b≠g->(w.setRow g cs).heap[b]?=w.heap[b]?:=
 ⟨rfl,rfl,rfl,by simp[World.setRow],fun b hb=>setRow_other w g b cs hb⟩
theorem K4 {o:Nat} {I:Array Value} (hi:(P.info? t).isSome=true) (hn:P.cellsOf t=n) (hx:a.eval x= .pointer (some ⟨b,o,none⟩)) (hv:(a.eval y).cells=vs.toArray) (hl:vs.length=n) (h9:∀ x∈vs,x.oneCell'=true) (hb:w.heap[b]?=some (.cells I T (0,0))) (s0:o+vs.length<=I.size) (dst:Option Tmp) (ty:TypeId) (pos:String) (S:Array Edge) (gd:Option (Nat×Bool)):
  (execOp a.eval ⟨dst,.store t x y,ty,pos,S,gd⟩).run P w= .ok .skip (w.setRow b (I.toList.take o++vs++I.toList.drop (o+vs.length)).toArray):=by
 have hs:=run_storeCells_at P b o T vs 0 I w hb (by simpa using s0) h9
 simp only[Ul] at hs
 have d:¬ (vs.toArray.size≠P.cellsOf t):=by simp;omega
 simp only[execOp,Instr.storeAt,Instr.sureAddr,hx,Sem.run_bind,Sem.run_pure,Result.andThen_ok,storeVar,eK hi,hv]
 rw[if_neg d]
 simp only[hs,Sem.run_bind,Result.andThen_ok,Sem.run_pure]
def jG (P:Program) (c:Cx) (o:Oper) (a:Act) (w:World) (O:St):Prop:=
 ∃ v w' N h7,(execOp a.eval o).run P w= .ok v w'/\((∃ u,v= .value u/\cW c O N h7 (a.put o.dst u) w')\/(v= .skip/\cW c O N h7 (a.put o.dst undef) w'))
theorem tW (D:cW c σ κ φ a w) (hb:b∈φ id):¬ c.M0 b:=fun h=>by
 have h1:=D.m0 b h
 rcases(D.mine id b hb).2 with h2|h2
 ·omega
 ·exact h1.2 h2
theorem K5 (D:cW c σ κ φ a w) (hd:o.dst=some d) (h2:∀ u∈vs,u.oneCell'=true) (E:an w (own c φ) κ cs vs) (H:(execOp a.eval o).run P w= .ok (.value (.pointer (some ⟨w.heap.size,0,none⟩))) (w.alloc (.cells vs.toArray T))) (r2:d<c.N):
  jG P c o a w {σ.swap d .any (.box (cm d .any cs)) with s:=am (bl d .any σ.s) d (.ref d 0)}:=by
 have hB:Below w.heap.size w (w.alloc (.cells vs.toArray T)):=(Below.refl _ _).alloc (SZ _) _
 have B:∀ b∈[w.heap.size],(w.heap.size<=b\/b∈φ d)/\b<(w.alloc (.cells vs.toArray T)).heap.size:=fun b hb=>by
  simp at hb;subst hb;exact⟨.inl (SZ _),by simp⟩
 have Q:=pL D (id:=d) hB.size (fun b hb _=>hB.block b hb) B
 have R:cW c (σ.swap d .any (.box (cm d .any cs))) (am κ d (.pointer (some ⟨w.heap.size,0,none⟩))) (am φ d [w.heap.size]) a (w.alloc (.cells vs.toArray T)):=by
  refine D.swap rfl rfl rfl rfl hB.size (fun b hb _=>hB.block b hb) B oS (by unfold aW;trivial) ?_
  exact⟨w.heap.size,T,vs,[],by rw[ar],heap_alloc_new w _,h2,ap.of_S _ _ (pK Q (by unfold aW;trivial) cs vs E),rfl⟩
 refine⟨.value (.pointer (some ⟨w.heap.size,0,none⟩)),w.alloc (.cells vs.toArray T),am κ d (.pointer (some ⟨w.heap.size,0,none⟩)),am φ d [w.heap.size],H,.inl ⟨.pointer (some ⟨w.heap.size,0,none⟩),rfl, ?_⟩⟩
 rw[hd]
 exact R.putS (dst:=d) r2 (by simp only[ai];exact⟨w.heap.size,by rw[ar],rfl⟩)
theorem PN (D:cW c σ κ φ a w) {T:Nat} (hi:P.info? T=some i) (hz:i.zero=some z) (hc:z.cells.toList=[.pointer none,.slice none 0 0]) (ty:TypeId) (pos:String) (S:Array Edge) (gd:Option (Nat×Bool)) (r2:d<c.N):
  jG P c ⟨some d,.alloc T,ty,pos,S,gd⟩ a w {σ.swap d .any (.bld T e []) with s:=am (bl d .any σ.s) d (.ref d 0)}:=by
 have f:z.cells=[.pointer none,.slice none 0 0].toArray:=by rw[<-hc,Array.toArray_toList]
 have H:=xm (P:=P) (a:=a) (w:=w) hi hz f (dst:=some d) (ty:=ty) (pos:=pos) (S:=S) (gd:=gd)
 have hB:Below w.heap.size w (w.alloc (.cells [.pointer none,.slice none 0 0].toArray T)):=(Below.refl _ _).alloc (SZ _) _
 have B:∀ b∈[w.heap.size],(w.heap.size<=b\/b∈φ d)/\b<(w.alloc (.cells [.pointer none,.slice none 0 0].toArray T)).heap.size:=fun b hb=>by
  simp at hb;subst hb;exact⟨.inl (SZ _),by simp⟩
 have R:cW c (σ.swap d .any (.bld T e [])) (am κ d (.pointer (some ⟨w.heap.size,0,none⟩))) (am φ d [w.heap.size]) a (w.alloc (.cells [.pointer none,.slice none 0 0].toArray T)):=by
  refine D.swap rfl rfl rfl rfl hB.size (fun b hb _=>hB.block b hb) B oS (by unfold aW;trivial) ?_
  exact⟨w.heap.size,.pointer none,.slice none 0 0,by rw[ar],heap_alloc_new w _,.inl rfl,World.ownsRowF_nil _ _ _ _,rfl⟩
 refine⟨.value (.pointer (some ⟨w.heap.size,0,none⟩)),w.alloc (.cells [.pointer none,.slice none 0 0].toArray T),am κ d (.pointer (some ⟨w.heap.size,0,none⟩)),am φ d [w.heap.size],H,.inl ⟨.pointer (some ⟨w.heap.size,0,none⟩),rfl, ?_⟩⟩
 exact R.putS (dst:=d) r2 (by simp only[ai];exact⟨w.heap.size,by rw[ar],rfl⟩)
theorem PP (D:cW c σ κ φ a w) {y:SX} (Z:aH c.N x y=true) (hc:(ev σ.s y).cells?=some cs) (ty:TypeId) (pos:String) (S:Array Edge) (gd:Option (Nat×Bool)) (r2:d<c.N):
  jG P c ⟨some d,.box T x,ty,pos,S,gd⟩ a w {σ.swap d .any (.box (cm d .any cs)) with s:=am (bl d .any σ.s) d (.ref d 0)}:=by
 obtain⟨vs,h1,h2,E⟩:=(ak D Z).cells D.kok hc
 refine K5 D rfl h2 E (T:=T) ?_ r2
 simp only[execOp,Instr.box,newVar,newRow,newObj,h1,Sem.run_bind,Sem.run,Result.andThen_ok,Sem.run_pure]
 rfl
theorem K6 (D:cW c σ κ φ a w) {v:SV} (hi:P.info? t=some i) (hz:i.zero=some z) (hv:q7 z v=true) (hc:v.cells?=some cs) (ty:TypeId) (pos:String) (S:Array Edge) (gd:Option (Nat×Bool)) (r2:d<c.N):
  jG P c ⟨some d,.alloc t,ty,pos,S,gd⟩ a w {σ.swap d .any (.box (cm d .any cs)) with s:=am (bl d .any σ.s) d (.ref d 0)}:=by
 obtain⟨vs,h1,h2,E⟩:=(oW (w:=w) (M:=own c φ) (κ:=κ) hv).cells D.kok hc
 exact K5 D rfl h2 E (xm hi hz h1) r2
theorem Jm (D:cW c σ κ φ a w) {v:SX} {vs:List SV} (h1:aH c.N x p=true) (h2:aH c.N y v=true) (hi:(P.info? t).isSome=true) (hn:P.cellsOf t=n) (Y:ev σ.s p= .ref id off) (hh:σ.h id= .box cs) (hv:(ev σ.s v).cells?=some vs) (hl:vs.length=n) (s0:off+n<=cs.length) (ty:TypeId) (pos:String) (S:Array Edge) (gd:Option (Nat×Bool)):
  jG P c ⟨none,.store t x y,ty,pos,S,gd⟩ a w ⟨σ.s,am σ.h id (.box (splice cs off vs))⟩:=by
 have hx:=ak D h1
 rw[Y] at hx
 simp only[ai] at hx
 obtain⟨b,r5,hx⟩:=hx
 obtain⟨R,j,d,B⟩:=(ak D h2).cells D.kok hv
 have r0:=D.chunks id
 rw[hh] at r0
 obtain⟨b',T,g,G,r2,u,h9,V,K⟩:=r0
 rw[r5] at r2;simp at r2;subst r2
 have r4:=B.length
 have h:=V.length
 have H:=K4 (P:=P) (a:=a) hi hn hx j oM d u oT none ty pos S gd
 simp only at H
 obtain⟨A,C,O,f,F⟩:=wh w b (g.take off++R++g.drop (off+R.length)).toArray
 obtain⟨G',J,m⟩:=V.splice B off
 refine⟨.skip,_,κ,am φ id (b::G'),H,.inr ⟨rfl, ?_⟩⟩
 refine D.modify (L:=b::G') A C O f (fun b' h6=>F b' fun e=>h6 (by rw[K,e];simp)) (by rw[K];exact J.cons_cons b) fun Q=> ?_
 refine⟨b,T,_,G',r5,setRow_heap w b _ _ T _ u,Ai h9 d,ap.ext Q _ _ _ (fun b' h6=>F b' fun e=> ?_) m,rfl⟩
 have:=D.nod id
 rw[K] at this
 exact(UQ.1 this).1 (by rw[<-e];exact J.subset h6)
theorem Fp {i:Nat} {vs:List SV} (W:∀ r∈rows,r.length=sz) (h:ap w M κ rows.flatten xs G) (k:an w M κ vs R) (r3:rows[i]?=some r) (s0:off+vs.length<=r.length):
  ∃ G',G'.Sublist G/\ap w M κ (rows.set i (splice r off vs)).flatten (xs.take (i * sz+off)++R++xs.drop (i * sz+off+R.length)) G':=by
 rw[sF (sz:=sz) rows i off r vs W r3 s0]
 exact h.splice k _
theorem Jn (D:cW c σ κ φ a w) {v:SX} {i:Nat} {vs:List SV} (h1:aH c.N x p=true) (h2:aH c.N y v=true) (hi:(P.info? t).isSome=true) (hn:P.cellsOf t=n) (Y:ev σ.s p= .vref id sz i off) (hh:σ.h id= .vec e sz rows) (hv:(ev σ.s v).cells?=some vs) (r3:rows[i]?=some r) (hl:vs.length=n) (s0:off+n<=r.length) (ty:TypeId) (pos:String) (S:Array Edge) (gd:Option (Nat×Bool)):
  jG P c ⟨none,.store t x y,ty,pos,S,gd⟩ a w ⟨σ.s,am σ.h id (.vec e sz (rows.set i (splice r off vs)))⟩:=by
 have hx:=ak D h1
 rw[Y] at hx
 simp only[ai] at hx
 obtain⟨b,len,N,r5,hx⟩:=hx
 obtain⟨R,j,d,B⟩:=(ak D h2).cells D.kok hv
 have r0:=D.chunks id
 rw[hh] at r0
 obtain⟨xs,G,ho,h9,W,V,K⟩:=r0
 have r4:=B.length
 have r6:=V.length
 have k:=W r (SW r3)
 have h5:i<rows.length:=(SY.1 r3).1
 rcases ho.2 with⟨v5,h4⟩|⟨g,h0,I,E,hB,u,z,M,Z,s⟩
 ·omega
 ·rw[r5] at E;simp at E
  obtain⟨rfl,rfl,rfl⟩:=E
  have w7:fz (κ id)=[b]:=by rw[r5];rfl
  rw[w7] at K
  have T:=ho.1
  have o:i * sz+off+R.length<=rows.length * sz:=by
   have h1:(i+1) * sz<=rows.length * sz:=UC _ h5
   rw[T8] at h1;omega
  have U:rows.length * sz<=N * sz:=UC _ z
  have H:=K4 (P:=P) (a:=a) hi hn hx j oM d u oM none ty pos S gd
  obtain⟨A,C,O,f,F⟩:=wh w b (I.toList.take (i * sz+off)++R++I.toList.drop (i * sz+off+R.length)).toArray
  obtain⟨G',J,m⟩:=Fp (off:=off) W V B r3 oM
  refine⟨.skip,_,κ,am φ id (b::G'),H,.inr ⟨rfl, ?_⟩⟩
  refine D.modify (L:=b::G') A C O f (fun b' h6=>F b' fun e=>h6 (by rw[K,e];simp)) (by rw[K];exact J.cons_cons b) fun Q=> ?_
  refine⟨xs.take (i * sz+off)++R++xs.drop (i * sz+off+R.length),G',⟨?_,.inr ⟨b,N,_,by rw[r5];simp,hB,setRow_heap w b _ _ e _ u,by simpa using z,M, ?_, ?_⟩⟩,Ai h9 d, ?_, ?_,by rw[w7];rfl⟩
  ·simp;omega
  ·simp;omega
  ·simp only[Vd]
   rw[<-s,List.take_take,List.drop_take]
   rw[show min (i * sz+off) (rows.length * sz)=i * sz+off by omega]
   rw[S6,List.take_append,List.take_append]
   simp only[Th,Array.length_toList]
   rw[Tt (l:=List.take (i * sz+off) I.toList) oT]
   rw[show min (i * sz+off) I.size=i * sz+off by omega]
   rw[Tt (l:=R) oM]
   simp only[S6]
   congr 3
   omega
  ·intro q hq
   rcases List.mem_or_eq_of_mem_set hq with h|h
   ·exact W q h
   ·subst h;simp[splice];omega
  ·refine ap.ext Q _ _ _ (fun b' h6=>F b' fun e=> ?_) m
   have:=D.nod id
   rw[K] at this
   exact(UQ.1 this).1 (by rw[<-e];exact J.subset h6)
theorem ra (v:Value) (h:∀ x,v≠ .pointer x) (h':∀ x,v≠ .map x):sc v=v.ownBlock:=by
 cases v with
 |slice x n c=>cases x<;>rfl
 |pointer x=>exact absurd rfl (h x)
 |map x=>exact absurd rfl (h' x)
 |_=>rfl
theorem D0 (w:World) {ty e:TypeId} (ht:P.underlying t=some (.slice e)) (hi:P.info? e=some i) (hz:i.zero=some z) (X:w.ownsRow 0 e i.size v n xs) {ad:Addr} {m c:Nat} (hl:k.length=m * i.size) (p:∀ j u,k[j]?=some u->w.cell? (ad.add j)=some u) (h1:∀ u∈k,u.oneCell'=true) (Z:0<m) (d:n+m<=137438953472) (ft:(n+m) * i.bytes<=140737488355328) (H:(Builtin.append_ #[t,t] ty #[v,.slice (some ad) m c]).run P w= .ok v' w'):
  ∀ b,sc v'=some b->w.heap.size<=b\/sc v=some b:=by
 intro b hb
 rcases X.2 with⟨rfl,rfl⟩|⟨g,N,I,rfl,f,hg,y,q,U,s⟩
 ·rw[Tx] at ft
  have:=run_append_nil (P:=P) w t ty e i z ht hi hz ad m c k hl p Z oM oM
  rw[this] at H
  simp only[Result.ok.injEq] at H
  rw[<-H.1] at hb
  simp[sc] at hb
  exact .inl oM
 ·by_cases h:n+m<=N
  ·have o:n * i.size+k.length<=I.size:=by rw[hl,U,<-T8];exact UC _ h
   have:=run_append_room (P:=P) w t ty e i ht hi g n N I hg ad m c k hl p h1 h o
   rw[this] at H
   simp only[Result.ok.injEq] at H
   rw[<-H.1] at hb
   exact .inr hb
  ·have:=run_append_grow (P:=P) w t ty e i z ht hi hz ⟨g,0,none⟩ n N xs X.1 (X.cells (g:=g) rfl) ad m c k hl p oM oM (growslice_fits oM ft)
   rw[this] at H
   simp only[Result.ok.injEq] at H
   rw[<-H.1] at hb
   simp[sc] at hb
   exact .inl oM
theorem xv {y:SV} {u:Value} (hy:ai w M κ y u) (h:pM y=some f) (W:∀ r∈f,r.length=sz):
  ∃ ad N,∃ k:List Value,u= .slice ad f.length N/\an w M κ f.flatten k/\(∀ x∈k,x.oneCell'=true)/\(f=[]/\k=[]\/∃ b o,ad=some ⟨b,o,none⟩/\∀ j v,k[j]?=some v->w.cell? ⟨b,o+j,none⟩=some v):=by
 have plain:(∀ sz n cs,y≠ .lit sz n cs)->∃ ad N,∃ k:List Value,u= .slice ad f.length N/\an w M κ f.flatten k/\(∀ x∈k,x.oneCell'=true)/\(f=[]/\k=[]\/∃ b o,ad=some ⟨b,o,none⟩/\∀ j v,k[j]?=some v->w.cell? ⟨b,o+j,none⟩=some v):=fun U=>by
  have h':∃ rows,y.toDV=some (.slice rows)/\f=rows.map dR:=by
   unfold pM at h
   split at h
   ·rename_i sz n cs;exact absurd rfl (U sz n cs)
   ·split at h
    ·rename_i rows hd;simp only[SN] at h;exact⟨rows,hd,h.symm⟩
    ·cases h
  obtain⟨rows,hd,rfl⟩:=h'
  have g:=ai.toDV _ _ _ hy hd
  unfold aW at g
  obtain⟨ad,N,l,z,d,e⟩:=g
  by_cases I:rows=[]
  ·subst I;exact⟨ad,N,[],l,by simp[an],by simp,.inl ⟨rfl,rfl⟩⟩
  ·rcases e with e|⟨b,o,Q,rfl,Z,hb,i⟩
   ·exact absurd e I
   ·rw[aQ.iff] at i
    obtain⟨vs,s6,s7,m⟩:=i.2.values
    exact⟨_,N,vs,by simpa using l,by rw[Ah];exact K3 s6,s7,.inr ⟨b,o,rfl,m⟩⟩
 cases y with
 |lit Q n cs=>
  simp only[pM,SN] at h
  subst h
  simp only[ai] at hy
  obtain⟨b,vs,hv,h1,h2,E,h4,h5,h6⟩:=hy
  refine⟨_,n,vs,by rw[ff];exact hv, ?_,h4,.inr ⟨b,0,rfl,fun j v hj=>by rw[Tx];exact h5 j v hj⟩⟩
  rw[lx _ _ _ (by rw[<-h6.length];exact E)]
  exact h6
 |_=>exact plain oS
theorem Aj (D:cW c σ κ φ a w) (y:o.dst=some d) (H:(execOp a.eval o).run P w= .ok (.value v') w') (ho:w.ownsRow 0 e sz (a.eval x') rows.length xs) (h9:∀ x∈xs,x.oneCell'=true) (M:∀ r∈rows,r.length=sz) (V:ap w (own c φ) κ rows.flatten xs G) (K:φ id=fz (a.eval x')++G) (Y:w'.ownsRow 0 e sz v' (rows.length+f.length) (xs++k)) (m:w.grownBy w' (a.eval x').ownBlock) (r9:∀ b,sc v'=some b->w.heap.size<=b\/sc (a.eval x')=some b) (h1:an w (own c φ) κ f.flatten k) (h2:∀ x∈k,x.oneCell'=true) (W:∀ r∈f,r.length=sz) (r2:d<c.N):
  jG P c o a w (cy σ d id e sz (rows++f)):=by
 have p:∀ (v:Value) (n:Nat) (xs:List Value) (w:World),w.ownsRow 0 e sz v n xs->(∀ x,v≠ .pointer x)/\(∀ x,v≠ .map x)/\v.oneCell'=true:=fun v n xs w h=>by
  rcases h.2 with⟨rfl,_⟩|⟨g,c,u,rfl,_⟩<;>simp[Value.oneCell']
 have C:=p _ _ _ _ ho
 have j:=p _ _ _ _ Y
 have A:(a.eval x').ownBlock=sc (a.eval x'):=(ra _ C.1 C.2.1).symm
 have t:∀ b,sc (a.eval x')=some b->b∈φ id:=fun b hb=>by rw[K];simp[fz,hb]
 have l:∀ b,b<w.heap.size->b∉fz (a.eval x')->w'.heap[b]?=w.heap[b]?:=fun b hb hn=>m.block b hb fun he=>hn (by rw[A] at he;simp[fz,<-he])
 have X:∀ b,sc v'=some b->b<w'.heap.size:=fun b hb=>(Y.lt b (by rw[<-ra _ j.1 j.2.1];exact hb)).2
 have q:∀ b∈G,b∈φ id:=fun b hb=>by rw[K];simp[hb]
 have B:∀ b∈fz v'++G,(w.heap.size<=b\/b∈φ id)/\b<w'.heap.size:=fun b hb=>by
  rcases Te.1 hb with hb|hb
  ·simp only[fz,Option.mem_toList] at hb
   exact⟨(r9 b hb).imp _root_.id (t b),X b hb⟩
  ·exact⟨.inr (q b hb),TJ (D.mine id b (q b hb)).1 m.size⟩
 have i:=D.nod id
 rw[K] at i
 have z:(fz v'++G).Nodup:=by
  have hG:=(TD.1 i).2.1
  unfold fz
  cases hb:sc v' with
  |none=>simpa using hG
  |some b=>
   simp only[Option.toList_some,Td,S8,UQ]
   refine⟨fun r6=> ?_,hG⟩
   rcases r9 b hb with h|h
   ·have:=(D.mine id b (q b r6)).1;omega
   ·exact(TD.1 i).2.2 b (by simp[fz,h]) b r6 rfl
 have s:∀ b,b<w.heap.size->b∉φ id->w'.heap[b]?=w.heap[b]?:=fun b hb hn=>l b hb fun h=>hn (by rw[K];simp[h])
 have Q:=pL D (id:=id) m.size s B
 have E:∀ b∈G,w'.heap[b]?=w.heap[b]?:=fun b hb=>l b (D.mine id b (q b hb)).1 fun h=>(TD.1 i).2.2 b h b hb rfl
 have R:cW c (σ.swap id .any (.vec e sz (c0 id .any (rows++f)))) (am κ id v') (am φ id (fz v'++G)) a w':=by
  refine D.swap j.2.2 m.os m.tape m.output m.size s B z (by unfold aW;trivial) ?_
  refine⟨xs++k,G,by rw[ar,iZ,SS];exact Y,fun x hx=> ?_, ?_, ?_,by rw[ar]⟩
  ·rcases Te.1 hx with hx|hx
   ·exact h9 x hx
   ·exact h2 x hx
  ·refine pJ _ _ _ _ fun r h8=> ?_
   rcases Te.1 h8 with h8|h8
   ·exact M r h8
   ·exact W r h8
  ·rw[jr,List.flatten_append]
   refine we Q (by unfold aW;trivial) _ _ _ E ?_
   simpa using V.append (ap.of_S _ _ h1)
 refine⟨.value v',w',am κ id v',am φ id (fz v'++G),H,.inl ⟨v',rfl, ?_⟩⟩
 rw[y]
 exact R.putS (dst:=d) r2 (by simp only[ai,ar])
theorem yv (D:cW c σ κ φ a w) {t:Nat} {y:SX} (ha:args.toList=[x',y']) (L:ts.toList=[t,t]) (hu:P.underlying t=some (.slice e)) (hi:P.info? e=some i) (F:i.size=sz) (r8:0<sz) (B:i.bytes<=1024) (hz:i.zero=some z) (Q:z.cells.size=sz) (hy:aH c.N y' y=true) (r5:pM (ev σ.s y)=some f) (W:∀ r∈f,r.length=sz) (J:rows.length+f.length<=137438953472) (X:∃ xs G,w.ownsRow 0 e sz (a.eval x') rows.length xs/\(∀ x∈xs,x.oneCell'=true)/\(∀ r∈rows,r.length=sz)/\ap w (own c φ) κ rows.flatten xs G/\φ id=fz (a.eval x')++G) (ty:TypeId) (pos:String) (S:Array Edge) (gd:Option (Nat×Bool)) (r2:d<c.N):
  jG P c ⟨some d,.call {callee:= .builtin .append,args,argTypes:=ts},ty,pos,S,gd⟩ a w (cy σ d id e sz (rows++f)):=by
 have e1:args= #[x',y']:=by rw[<-T5];exact ha
 have e2:ts= #[t,t]:=by rw[<-T5];exact L
 subst e1 e2
 obtain⟨xs,G,ho,h9,M,V,K⟩:=X
 obtain⟨ad,N,k,l,h1,h2,E⟩:=xv (ak D hy) r5 W
 have u0:k.length=f.length * sz:=by rw[h1.length,iY W]
 obtain⟨v',w',H,Y,m,r9⟩:∃ v' w',(Builtin.append_ #[t,t] ty #[a.eval x',a.eval y']).run P w= .ok v' w'/\w'.ownsRow 0 e sz v' (rows.length+f.length) (xs++k)/\w.grownBy w' (a.eval x').ownBlock/\∀ b,sc v'=some b->w.heap.size<=b\/sc (a.eval x')=some b:=by
  rcases E with⟨rfl,rfl⟩|⟨b,o,rfl,s⟩
  ·refine⟨a.eval x',w, ?_,by simpa using ho,⟨rfl,rfl,rfl,SZ _,fun _ _ _=>rfl⟩,fun b hb=> .inr hb⟩
   have n:(Builtin.firstCells sz 0 (.slice ad 0 N)).run P w= .ok #[] w:=by
    cases ad<;>simp[Builtin.firstCells,loadCells,loadCellsFrom]
   rcases ho.2 with⟨hv,hn⟩|⟨g,h0,I,hv,_,_,h,_⟩
   ·simp at l
    simp[Builtin.append_,hv,l,run_underlying hu,sizeOf,typeInfo,hi,Builtin.lenOf,F,n]
   ·simp at l
    have r0:∀ A:Addr,(storeCells A [] 0).run P w= .ok () w:=fun A=>by simp[storeCells]
    simp[Builtin.append_,hv,l,run_underlying hu,sizeOf,typeInfo,hi,Builtin.lenOf,F,n,h,r0]
  ·have ft:(rows.length+f.length) * i.bytes<=140737488355328:=by
    have:=Nat.mul_le_mul J B
    omega
   obtain⟨v',w',q,s9,v,_⟩:=run_append_own (P:=P) w 0 t ty e i z sz i.bytes hu hi hz F rfl Q r8 (a.eval x') rows.length xs ho ⟨b,o,none⟩ f.length N k u0 (fun j u hj=>by rw[gi];exact s j u hj) h2 (by simp only[maxLen];omega) ft (TK _)
   refine⟨v',w',by rw[l];exact q,s9,v, ?_⟩
   by_cases C:f.length=0
   ·have p:f=[]:=Ta.1 C
    subst p
    have h4:k=[]:=Ta.1 (by simpa using u0)
    subst h4
    rcases ho.2 with⟨hv,hn⟩|⟨g,h0,I,hv,_,hg,h,_,Z,_⟩
    ·have:(Builtin.append_ #[t,t] ty #[.slice none 0 0,.slice (some ⟨b,o,none⟩) 0 N]).run P w= .ok (.slice none 0 0) w:=by
      simp[Builtin.append_,run_underlying hu,sizeOf,typeInfo,hi,Builtin.lenOf,Builtin.firstCells,loadCells,loadCellsFrom]
     rw[hv] at q
     simp only[S3] at q
     rw[this] at q
     simp only[Result.ok.injEq] at q
     intro b' h6
     rw[<-q.1] at h6
     simp[sc] at h6
    ·subst F
     have:=run_append_room (P:=P) (ty:=ty) w t e i hu hi g rows.length h0 I hg ⟨b,o,none⟩ 0 N [] oS oS oS (by simpa using h) (by simp;rw[Z];exact UC _ h)
     rw[hv] at q
     simp only[S3] at q
     rw[this] at q
     simp only[Result.ok.injEq] at q
     intro b' h6
     rw[<-q.1] at h6
     rw[hv]
     exact .inr h6
   ·subst F
    exact D0 (P:=P) w hu hi hz ho u0 (fun j u hj=>by rw[gi];exact s j u hj) h2 oM J ft q
 refine Aj D (x':=x') rfl ?_ ho h9 M V K Y m r9 h1 h2 W r2
 obtain⟨cs,U⟩:=gI (P:=P) (w:=w) (dst:=some d) (ty:=ty) (pos:=pos) (S:=S) (gd:=gd) a.eval .append #[x',y'] #[t,t]
 rw[U]
 simp only[builtin,Sem.run_bind]
 rw[show(#[x',y'].map a.eval)= #[a.eval x',a.eval y'] by simp,H]
 rfl
theorem H5 (D:cW c σ κ φ a w) {t u:Nat} {l:List UInt8} (ha:args.toList=[x',y']) (L:ts.toList=[t,u]) (hu:P.underlying t=some (.slice e)) (hs:P.underlying u=some .string) (hi:P.info? e=some i) (F:i.size=1) (B:i.bytes=1) (hz:i.zero=some (.int .u8 0)) (hy:a.eval y'= .string ⟨l.toArray⟩) (J:rows.length+l.length<=137438953472) (X:∃ xs G,w.ownsRow 0 e 1 (a.eval x') rows.length xs/\(∀ x∈xs,x.oneCell'=true)/\(∀ r∈rows,r.length=1)/\ap w (own c φ) κ rows.flatten xs G/\φ id=fz (a.eval x')++G) (ty:TypeId) (pos:String) (S:Array Edge) (gd:Option (Nat×Bool)) (r2:d<c.N):
  jG P c ⟨some d,.call {callee:= .builtin .append,args,argTypes:=ts},ty,pos,S,gd⟩ a w (cy σ d id e 1 (rows++l.map fun b=>[.d (.int .u8 b.toNat)])):=by
 have e1:args= #[x',y']:=by rw[<-T5];exact ha
 have e2:ts= #[t,u]:=by rw[<-T5];exact L
 subst e1 e2
 obtain⟨xs,G,ho,h9,M,V,K⟩:=X
 have v0:(⟨l.toArray⟩:ByteArray).size=l.length:=by simp[ByteArray.size]
 obtain⟨v',w',H,Y,m,_⟩:=Lib.run_append_own_string (P:=P) w 0 t u ty e i hu hs hi hz F B (a.eval x') rows.length xs ho ⟨l.toArray⟩ (by unfold maxLen;omega) oM (TK _)
 have r9:∀ b,sc v'=some b->w.heap.size<=b\/sc (a.eval x')=some b:=by
  intro b hb
  rcases ho.2 with⟨hv,hn⟩|⟨g,N,I,hv,_,hg,y,q,U,s⟩
  ·by_cases hl:l.length=0
   ·have f:l=[]:=Ta.1 hl
    subst f
    have C:=Lib.run_firstCells_string (P:=P) w 1 ⟨#[]⟩
    have h0:(⟨#[]⟩:ByteArray).size=0:=rfl
    rw[h0] at C
    have:(Builtin.append_ #[t,u] ty #[.slice none 0 0,.string ⟨#[]⟩]).run P w= .ok (.slice none 0 0) w:=by
     simp[Builtin.append_,run_underlying hu,run_underlying hs,sizeOf,typeInfo,hi,F,Builtin.lenOf,h0,C]
    rw[hv] at H
    rw[show(([]:List UInt8).toArray)= #[] from rfl,this] at H
    simp only[Result.ok.injEq] at H
    rw[<-H.1] at hb
    simp[sc] at hb
   ·have:=run_append_nil_string (P:=P) w t u ty e i (.int .u8 0) hu hs hi hz ⟨l.toArray⟩ oM oM (by rw[B];omega)
    rw[hv,this] at H
    simp only[Result.ok.injEq] at H
    rw[<-H.1] at hb
    simp[sc] at hb
    exact .inl oM
  ·rw[hv] at H⊢
   by_cases h:rows.length+(⟨l.toArray⟩:ByteArray).size<=N
   ·have:=Lib.run_append_room_string (P:=P) w t u ty e i hu hs hi F g rows.length N I hg ⟨l.toArray⟩ h oM
    rw[this] at H
    simp only[Result.ok.injEq] at H
    rw[<-H.1] at hb
    exact .inr hb
   ·have r6:xs.length=rows.length * i.size:=by rw[F];exact ho.1
    have:=Lib.run_append_grow_string (P:=P) w t u ty e i (.int .u8 0) hu hs hi hz ⟨g,0,none⟩ rows.length N xs r6 (ho.cells (g:=g) (by rw[hv];rfl)) ⟨l.toArray⟩ oM oM (by rw[B];exact growslice_fits oM oM)
    rw[this] at H
    simp only[Result.ok.injEq] at H
    rw[<-H.1] at hb
    simp[sc] at hb
    exact .inl oM
 have p:∀ (r:List UInt8),an w (own c φ) κ (r.map fun b=>[SV.d (.int .u8 b.toNat)]).flatten (r.map fun b=>Value.int .u8 b.toNat):=by
  intro r
  induction r with
  |nil=>simp[an]
  |cons b r ih=>
   simp only[Tc,TF,Td,S8,an]
   exact⟨_,_,rfl,by simp only[ai,aW],ih⟩
 refine Aj D (x':=x') (k:=Lib.strCells ⟨l.toArray⟩) rfl ?_ ho h9 M V K (by rw[TL,<-v0];exact Y) m r9 (p l) (Lib.strCells_oneCell _) (by intro r D;obtain⟨b,_,rfl⟩:=Tp.1 D;rfl) r2
 obtain⟨cs,U⟩:=gI (P:=P) (w:=w) (dst:=some d) (ty:=ty) (pos:=pos) (S:=S) (gd:=gd) a.eval .append #[x',y'] #[t,u]
 rw[U]
 simp only[builtin,Sem.run_bind]
 rw[show(#[x',y'].map a.eval)= #[a.eval x',a.eval y'] by simp,hy,H]
 rfl
theorem Fq (D:cW c σ κ φ a w) (hd:o.dst=some d) (H:(execOp a.eval o).run P w= .ok (.value v') w') (hB:Below w.heap.size w w') (ho:w'.ownsRow 0 e sz v' rows.length xs) (h9:∀ x∈xs,x.oneCell'=true) (W:∀ r∈rows,r.length=sz) (V:an w (own c φ) κ rows.flatten xs) (f:∀ b,sc v'=some b->w.heap.size<=b) (r2:d<c.N):
  jG P c o a w (cy σ d d e sz rows):=by
 have hs:(∀ x,v'≠ .pointer x)/\(∀ x,v'≠ .map x)/\v'.oneCell'=true:=by
  rcases ho.2 with⟨rfl,_⟩|⟨g,c,u,rfl,_⟩<;>simp[Value.oneCell']
 have X:∀ b,sc v'=some b->b<w'.heap.size:=fun b hb=>(ho.lt b (by rw[<-ra _ hs.1 hs.2.1];exact hb)).2
 have B:∀ b∈fz v',(w.heap.size<=b\/b∈φ d)/\b<w'.heap.size:=fun b hb=>by
  simp only[fz,Option.mem_toList] at hb;exact⟨.inl (f b hb),X b hb⟩
 have Q:=pL D (id:=d) hB.size (fun b hb _=>hB.block b hb) B
 have R:cW c (σ.swap d .any (.vec e sz (c0 d .any rows))) (am κ d v') (am φ d (fz v')) a w':=by
  refine D.swap hs.2.2 hB.os hB.tape hB.output hB.size (fun b hb _=>hB.block b hb) B (by unfold fz;cases sc v'<;>simp) (by unfold aW;trivial) ?_
  refine⟨xs,[],by rw[ar,iZ];exact ho,h9,pJ _ _ _ _ W, ?_,by rw[ar,Tg]⟩
  rw[jr]
  exact ap.of_S _ _ (pK Q (by unfold aW;trivial) _ _ V)
 refine⟨.value v',w',am κ d v',am φ d (fz v'),H,.inl ⟨v',rfl, ?_⟩⟩
 rw[hd]
 exact R.putS (dst:=d) r2 (by simp only[ai,ar])
theorem yw (w:World) {N:Nat} {more:Array Value} (hl:xs.length=n * sz) (hn:n<=N) (hc:N<=maxLen) (Z:more.size=(N - n) * sz):
  (w.alloc (.cells (xs.toArray++more) e)).ownsRow 0 e sz (.slice (some ⟨w.heap.size,0,none⟩) n N) n xs:=by
 refine⟨hl,.inr ⟨w.heap.size,N,_,rfl,TK _,heap_alloc_new w _,hn,hc, ?_, ?_⟩⟩
 ·simp only[Array.size_append,List.size_toArray,hl,Z,<-T8]
  congr 1;omega
 ·simp[<-hl]
theorem PQ (D:cW c σ κ φ a w) {t:Nat} {o:Array (Nat×Operand)} {xs:List SV} (hu:P.underlying t=some (.slice e)) (hi:P.info? e=some i) (F:i.size=sz) (r8:0<sz) (J:n * sz<=16777216) (hz:i.zero=some z) (Q:z.cells.size=sz) (hn:n=o.size) (T:an w (own c φ) κ xs (o.toList.map fun q=>a.eval q.2)) (s1:∀ (j:Nat) q,o.toList[j]?=some q->q.1=j) (K:iX sz xs=some cs) (ty:TypeId) (pos:String) (S:Array Edge) (gd:Option (Nat×Bool)) (r2:d<c.N):jG P c ⟨some d,.buildSlice t n o,ty,pos,S,gd⟩ a w (cy σ d d e sz (eQ sz xs.length cs)):=by
 obtain⟨rs,H,h1,h2,E⟩:=GX (dst:=some d) (ty:=ty) (pos:=pos) (S:=S) (gd:=gd) D.kok hu hi F r8 J hz Q hn T s1 K
 have r6:xs.length=n:=by have:=T.length;simp[hn] at this⊢;omega
 have h6:cs.length=n * sz:=by have:=E.length;omega
 have f:n<=maxLen:=by
  have:n<=n * sz:=Nat.le_mul_of_pos_right n r8
  unfold maxLen;omega
 rw[r6]
 refine Fq D rfl H ((Below.refl _ w).alloc (SZ _) _) (xs:=rs.flatten) ?_ h2 ?_ ?_ ?_ r2
 ·rw[ff]
  have:=yw w (e:=e) (more:= #[]) h1 (SZ _) f oS
  simpa using this
 ·exact q6 sz n cs h6
 ·rw[lx sz n cs h6];exact E
 ·intro b hb
  simp only[sc,SN] at hb
  omega
theorem G5 (D:cW c σ κ φ a w) {t:Nat} {x y:SX} (ha:args.toList=[x',y']) (L:ts.toList=[t,t]) (hu:P.underlying t=some (.slice e)) (hi:P.info? e=some i) (F:i.size=sz) (B:i.bytes<=1024) (hz:i.zero=some z) (Q:z.cells.size=sz) (hx:aH c.N x' x=true) (O:ev σ.s x= .lit sz n cs) (hy:aH c.N y' y=true) (r5:pM (ev σ.s y)=some f) (r8:0<f.length) (W:∀ r∈f,r.length=sz) (J:n+f.length<=137438953472) (ty:TypeId) (pos:String) (S:Array Edge) (gd:Option (Nat×Bool)) (r2:d<c.N):
  jG P c ⟨some d,.call {callee:= .builtin .append,args,argTypes:=ts},ty,pos,S,gd⟩ a w (cy σ d d e sz (eQ sz n cs++f)):=by
 have e1:args= #[x',y']:=by rw[<-T5];exact ha
 have e2:ts= #[t,t]:=by rw[<-T5];exact L
 subst e1 e2
 subst F
 have p:=ak D hx
 rw[O] at p
 simp only[ai] at p
 obtain⟨g,vs,h,g1,g2,g3,g4,g5,g6⟩:=p
 obtain⟨ad,N,k,l,h1,h2,E⟩:=xv (ak D hy) r5 W
 have u0:k.length=f.length * i.size:=by rw[h1.length,iY W]
 rcases E with⟨rfl,rfl⟩|⟨b,o,rfl,s⟩
 ·simp at r8
 have ft:(n+f.length) * i.bytes<=140737488355328:=by
  have:=Nat.mul_le_mul J B
  omega
 have H:=run_append_grow (P:=P) w t ty e i z hu hi hz ⟨g,0,none⟩ n n vs g3 (fun j v hj=>by rw[gi,Tx];exact g5 j v hj) ⟨b,o,none⟩ f.length N k u0 (fun j u hj=>by rw[gi];exact s j u hj) oM oM (growslice_fits oM ft)
 have h6:cs.length=n * i.size:=by rw[<-g6.length];exact g3
 refine Fq D (v':= .slice (some ⟨w.heap.size,0,none⟩) (n+f.length) (grownCap w (n+f.length) n e)) (xs:=vs++k) rfl (w':=w.drew.alloc (.cells (vs.toArray++k.toArray++Builtin.zeroCells z.cells (grownCap w (n+f.length) n e - (n+f.length))) e)) ?_ ?_ ?_ ?_ ?_ ?_ ?_ r2
 ·obtain⟨C,U⟩:=gI (P:=P) (w:=w) (dst:=some d) (ty:=ty) (pos:=pos) (S:=S) (gd:=gd) a.eval .append #[x',y'] #[t,t]
  rw[U]
  simp only[builtin,Sem.run_bind]
  rw[show(#[x',y'].map a.eval)= #[a.eval x',a.eval y'] by simp,h,l,H]
  rfl
 ·exact((Below.refl _ _).drew).alloc (SZ _) _
 ·have:=yw w.drew (e:=e) (sz:=i.size) (n:=n+f.length) (N:=grownCap w (n+f.length) n e) (xs:=vs++k) (more:=Builtin.zeroCells z.cells (grownCap w (n+f.length) n e - (n+f.length))) (by simp[g3,u0,T8]) (grownCap_ge _ _ _ _) (grownCap_le_maxLen _ _ _ _ (by simp only[maxLen];omega)) (by rw[size_zeroCells,Q])
  have e3:(vs++k).toArray=vs.toArray++k.toArray:=by simp
  rw[e3] at this
  rw[SS,ff]
  exact this
 ·intro x hx
  rcases Te.1 hx with hx|hx
  ·exact g4 x hx
  ·exact h2 x hx
 ·intro r h8
  rcases Te.1 h8 with h8|h8
  ·exact q6 _ _ _ h6 r h8
  ·exact W r h8
 ·rw[List.flatten_append,lx _ _ _ h6]
  exact g6.append h1
 ·intro b hb;simp[sc] at hb;omega
theorem K7 (D:cW c σ κ φ a w) {t e':Nat} {hi:Operand} {y h:SX} {k:IntKind} {n:Int} (hu:P.underlying t=some (.slice e)) (h5:(P.info? e).isSome=true) (F:P.cellsOf e=sz) (hx:aH c.N x y=true) (hh:aH c.N hi h=true) (O:ev σ.s y= .vec id) (C:ev σ.s h= .d (.int k n)) (hv:σ.h id= .vec e' sz rows) (h0:0<=n) (hn:n<=rows.length) (ty:TypeId) (pos:String) (S:Array Edge) (gd:Option (Nat×Bool)) (r2:d<c.N):
  jG P c ⟨some d,.slice t x none (some hi) none,ty,pos,S,gd⟩ a w (cy σ d id e' sz (rows.take n.toNat)):=by
 have p:=ak D hx
 rw[O] at p
 simp only[ai] at p
 have u:=ak D hh
 rw[C] at u
 simp only[ai,aW] at u
 have r0:=D.chunks id
 rw[hv] at r0
 obtain⟨xs,G,ho,h9,W,V,K⟩:=r0
 have q:n.toNat<=rows.length:=by omega
 obtain⟨ad,N,i,h6,r9,ho'⟩:∃ ad N,κ id= .slice ad rows.length N/\rows.length<=N/\fz (.slice ad n.toNat N)=fz (κ id)/\w.ownsRow 0 e' sz (.slice ad n.toNat N) n.toNat (xs.take (n.toNat * sz)):=by
  have r6:(xs.take (n.toNat * sz)).length=n.toNat * sz:=by
   rw[Th,ho.1,UR (UC _ q)]
  rcases ho.2 with⟨hk,hz⟩|⟨g,N,I,hk,hB,hg,z,M,Z,s⟩
  ·refine⟨none,0,by rw[hk,hz],by omega,by rw[hk];rfl,r6,.inl ⟨by congr 1;omega,by omega⟩⟩
  ·refine⟨some ⟨g,0,none⟩,N,hk,z,by rw[hk];rfl,r6,.inr ⟨g,N,I,rfl,hB,hg,by omega,M,Z, ?_⟩⟩
   rw[<-s,List.take_take,UR (UC _ q)]
 have v:=p.trans i
 have w2:=oc (P:=P) (w:=w) (j:=true) (len:=rows.length) (N:=N) (lo:=none) (hi:=some (a.eval hi)) (l:=none) (h:=some n) (.inl ⟨rfl,rfl⟩) (.inr ⟨k,n,by rw[u],rfl⟩) oS (by simpa using h0) (by simpa using hn) h6
 have H:(execOp a.eval ⟨some d,.slice t x none (some hi) none,ty,pos,S,gd⟩).run P w= .ok (.value (.slice ad n.toNat N)) w:=by
  simp only[execOp,Instr.sliceAt,Instr.slice,Sem.run_bind,run_underlying hu,Result.andThen_ok,v,U2,Uf,w2,eK h5]
  simp
  cases ad with
  |none=>simp
  |some A=>simp[Addr.add]
 obtain⟨G',J,m⟩:=V.take (n.toNat * sz)
 have o:(rows.take n.toNat).flatten=rows.flatten.take (n.toNat * sz):=by
  have E:rows.flatten=(rows.take n.toNat).flatten++(rows.drop n.toNat).flatten:=by rw[<-List.flatten_append,Tl]
  have hl:(rows.take n.toNat).flatten.length=n.toNat * sz:=by rw[iY (sz:=sz) fun r D=>W r (Tv D),Th,UR q]
  rw[E,Ur oM]
  exact(Tt oM).symm
 have f:(fz (κ id)++G').Sublist (φ id):=by rw[K];exact Va (Uv _) J
 have B:∀ b∈fz (κ id)++G',(w.heap.size<=b\/b∈φ id)/\b<w.heap.size:=fun b hb=>⟨.inr (f.subset hb),(D.mine id b (f.subset hb)).1⟩
 have Q:=pL D (id:=id) (SZ _) (fun b _ _=>rfl) B
 have R:cW c (σ.swap id .any (.vec e' sz (c0 id .any (rows.take n.toNat)))) (am κ id (.slice ad n.toNat N)) (am φ id (fz (κ id)++G')) a w:=by
  refine D.swap rfl rfl rfl rfl (SZ _) (fun b _ _=>rfl) B ((D.nod id).sublist f) (by unfold aW;trivial) ?_
  refine⟨xs.take (n.toNat * sz),G', ?_,fun x hx=>h9 x (Tv hx),pJ _ _ _ _ fun r D=>W r (Tv D), ?_,by rw[ar,r9]⟩
  ·rw[ar,iZ,Th,UR q];exact ho'
  ·rw[jr,o]
   exact we Q (by unfold aW;trivial) _ _ _ (fun _ _=>rfl) m
 refine⟨.value (.slice ad n.toNat N),w,_,_,H,.inl ⟨_,rfl,R.putS (dst:=d) r2 (by simp only[ai,ar])⟩⟩
theorem K8 (D:cW c σ κ φ a w) (kk:KK) (ty:TypeId) (pos:String) (S:Array Edge) (gd:Option (Nat×Bool)) (r2:d<c.N):
  jG P c ⟨some d,.makeMap t none,ty,pos,S,gd⟩ a w {σ.swap d .any (.map kk []) with s:=am (bl d .any σ.s) d (.mp d)}:=by
 have hB:Below w.heap.size w (w.alloc (.map #[] 0)):=(Below.refl _ _).alloc (SZ _) _
 have B:∀ b∈[w.heap.size],(w.heap.size<=b\/b∈φ d)/\b<(w.alloc (.map #[] 0)).heap.size:=fun b hb=>by
  simp at hb;subst hb;exact⟨.inl (SZ _),by simp⟩
 have R:cW c (σ.swap d .any (.map kk [])) (am κ d (.map (some w.heap.size))) (am φ d [w.heap.size]) a (w.alloc (.map #[] 0)):=by
  refine D.swap rfl rfl rfl rfl hB.size (fun b hb _=>hB.block b hb) B oS (by unfold aW;trivial) ?_
  exact⟨w.heap.size,[],0,[],by rw[ar],heap_alloc_new w _,⟨(fun _ he=>nomatch he),List.nodup_nil⟩,by unfold bJ;exact⟨rfl,rfl⟩,rfl⟩
 refine⟨.value (.map (some w.heap.size)),w.alloc (.map #[] 0),am κ d (.map (some w.heap.size)),am φ d [w.heap.size], ?_,.inl ⟨.map (some w.heap.size),rfl, ?_⟩⟩
 ·simp only[execOp,Instr.makeMap,newObj,Sem.run_bind,Sem.run,Result.andThen_ok,Sem.run_pure,U2]
  rfl
 ·exact R.putS (dst:=d) r2 (by simp only[ai,ar])
theorem D1 {x:DV} (C:kk.fits x=true) (hk:ir x=some v) (n:Nat):Instr.sameBits n v v=true:=by
 cases kk<;>cases x<;>simp[KK.fits] at C<;>simp[ir] at hk<;>subst hk<;>simp[Instr.sameBits,xp]
theorem Jo {k:Value} (h:GM es s):GM (es++[{key:=k,val:=v,born:=s}]) (s+1):=by
 refine⟨fun e he=> ?_, ?_⟩
 ·rcases Te.1 he with he|he
  ·have:=h.1 e he;omega
  ·simp only[Tj] at he;subst he;exact Nat.lt_succ_self _
 ·rw[TY,TD]
  refine⟨h.2,by simp,fun a ha b hb=> ?_⟩
  obtain⟨e,he,rfl⟩:=Tp.1 ha
  simp only[Tc,Ug,Tj] at hb
  subst hb
  have:=h.1 e he
  omega
theorem Fr {j:Nat} {k:Value} (h:GM es s):GM (es.modify j fun e=>{e with key:=k,val:=v}) s:=by
 have Z:(es.modify j fun e=>{e with key:=k,val:=v}).map (·.born)=es.map (·.born):=by
  apply List.ext_getElem?
  intro i
  simp only[TC,List.getElem?_modify]
  by_cases r0:j=i
  ·subst r0;cases es[j]?<;>simp
  ·simp[r0]
 refine⟨fun e he=> ?_,by rw[Z];exact h.2⟩
 have h1:e.born∈es.map (·.born):=by rw[<-Z];exact UF he
 obtain⟨e',g,h2⟩:=Tp.1 h1
 have:=h.1 e' g
 omega
theorem NC (D:cW c σ κ φ a w) {kt e:TypeId} {z:Operand} {m k v:SX} {kv:List (DV×SV)} {L:DV} (h1:aH c.N x m=true) (h2:aH c.N y k=true) (E:aH c.N z v=true) (ht:P.underlying t=some (.map kt e)) (hk:DQ P kt=some kk) (Z:ev σ.s m= .mp id) (h:ev σ.s k= .d L) (hh:σ.h id= .map kk kv) (C:kk.fits L=true) (ty:TypeId) (pos:String) (S:Array Edge) (gd:Option (Nat×Bool)):
  jG P c ⟨none,.mapUpdate t x y z,ty,pos,S,gd⟩ a w ⟨σ.s,am σ.h id (.map kk (mg kv L (ev σ.s v)))⟩:=by
 have hx:=ak D h1
 have hy:=ak D h2
 have hz:=ak D E
 rw[Z] at hx
 rw[h] at hy
 simp only[ai] at hx
 have r0:=D.chunks id
 rw[hh] at r0
 obtain⟨r,es,s,G,M,u,i,s5,K⟩:=r0
 have H:=hx.trans M
 have d:=tV hk
 have f:=CK C hy.d
 have n:∀ b,(Instr.checkKey b 10000 kt (a.eval y)).run P w= .ok () w:=fun b=>sC d _ 9999
 have A:(getObj r).run P w= .ok (.map es.toArray s) w:=by simp[getObj,Sem.run,u]
 have B:∀ o,(setObj r o).run P w= .ok () {w with heap:=w.heap.setIfInBounds r o}:=fun o=>by simp[setObj,Sem.run,u]
 have O:r<w.heap.size:=(Ts.1 u).1
 have fin:∀ (g:List MapEntry) (R:Nat) (G':List Nat),G'.Sublist G->GM g R->bJ w (own c φ) κ kk (mg kv L (ev σ.s v)) g G'->
   cW c ⟨σ.s,am σ.h id (.map kk (mg kv L (ev σ.s v)))⟩ κ (am φ id (r::G')) a {w with heap:=w.heap.setIfInBounds r (.map g.toArray R)}:=fun g R G' J T U=>by
  have F:∀ b,b≠r->({w with heap:=w.heap.setIfInBounds r (.map g.toArray R)}:World).heap[b]?=w.heap[b]?:=fun b hb=>by
   simp[Array.getElem?_setIfInBounds_ne (Ne.symm hb)]
  refine D.modify rfl rfl rfl oS (fun b hb=>F b fun e=>hb (by rw[K,e];simp)) (by rw[K];exact J.cons_cons r) fun Q=> ?_
  refine⟨r,g,R,G',M,by simp[O],T,bJ.ext Q _ _ _ (fun b hb=>F b fun e=> ?_) U,rfl⟩
  have:=D.nod id
  rw[K] at this
  exact(UQ.1 this).1 (by rw[<-e];exact J.subset hb)
 cases hg:mf kv L with
 |none=>
  have l:=v_ (P:=P) (w:=w) d (xq C f 0 s5 hg)
  refine⟨.skip,_,κ,am φ id (r::G), ?_,.inr ⟨rfl,fin (es++[{key:=a.eval y,val:=a.eval z,born:=s}]) (s+1) G (Uv _) (Jo i) ?_⟩⟩
  ·simp only[execOp,Instr.mapUpdate,Sem.run_bind,run_underlying ht,Result.andThen_ok,H,A,n,l,B,Sem.run_pure]
   simp
  ·simpa using Fk (b:=s) C f s5 hg (ev σ.s v) (a.eval z) [] (aO.of_S _ _ hz)
 |some d'=>
  obtain⟨j,e',p,N,q,g1,g2,V,g3,g4,g5⟩:=xr C f 0 s5 hg
  have l:=v_ (P:=P) (w:=w) d g2
  have I:(Instr.keyThatStays e'.key (a.eval y)).run P w= .ok (a.eval y) w:=by
   rw[g4]
   simp[Instr.keyThatStays,D1 C f]
  refine⟨.skip,_,κ,am φ id (r::(p++[]++q)), ?_,.inr ⟨rfl,fin (es.modify j fun e=>{e with key:=a.eval y,val:=a.eval z}) s (p++[]++q) ?_ (Fr i) (g5 _ _ [] (aO.of_S _ _ hz))⟩⟩
  ·simp only[Tx] at l
   simp only[execOp,Instr.mapUpdate,Sem.run_bind,run_underlying ht,Result.andThen_ok,H,A,n,l,List.getElem?_toArray,g1,Uf,TU,I,B,Sem.run_pure,List.modify_toArray]
  ·rw[V]
   exact Va (Va (Uv _) (List.nil_sublist _)) (Uv _)
end
end Go.Proofs.YtgmnipfafmphaaaGreatDoor

