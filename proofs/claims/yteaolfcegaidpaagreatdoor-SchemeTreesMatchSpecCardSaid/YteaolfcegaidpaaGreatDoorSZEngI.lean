/-
  My text.
-/
import Derived.Test.YteaolfcegaidpaaGreatDoorSZEngH
import Derived.Lib.AppendStr
import Derived.Laws.MakeOwn
namespace Go.Proofs.YteaolfcegaidpaaGreatDoor
set_option linter.unusedSimpArgs false
set_option linter.unusedVariables false
open Go.RowKit
inductive Oh where
 |boxM (x:SX)
 |st (n:Nat) (p v:SX)
 |app (e sz:Nat) (x y:SX)
 |appS (e:Nat) (x y:SX)
 |mkmap (kk:KK)
 |mset (kk:KK) (m k v:SX)
 |trunc (sz:Nat) (x hi:SX)
 |slM (e sz:Nat) (xs:List SX)
 |mkS (e sz:Nat) (z:SV) (x y:SX)
 |bldM (T e:Nat)
variable {C:Nat} {G:List Nat} {L:Operand} {M:Nat->Prop} {T:TypeId} {args:Array Operand} {b:Nat} {cs:List SV} {d e:Nat} {es:List MapEntry} {f:List (List SV)} {i:TypeInfo} {id:Nat} {k:List Value} {kk:KK} {n:Nat} {o:Oper} {off:Nat} {p:SX} {r:List SV} {rows:List (List SV)} {sz:Nat} {t:TypeId} {ts:Array TypeId} {us:List Value} {v v':Value} {vs:List Value} {w':World} {x:Operand} {xs:List Value} {y y':Operand} {z:Value}
def splice {α:Type} (cs:List α) (off:Nat) (vs:List α):List α:=cs.take off++vs++cs.drop (off+vs.length)
def cZ (σ:St) (dst id e sz:Nat) (rows:List (List SV)):St:=
 {σ.swap id .any (.vec e sz (jG id .any rows)) with s:=aD (eC id .any σ.s) dst (.vec id)}
def dR (r:List DV):List SV:=r.map .d
def yR:SV->Option (List (List SV))
 | .lit sz n cs=>some (fN sz n cs)
 |x=>match x.toDV with|some (.slice rows)=>some (rows.map dR)|_=>none
def wr (σ:St) (dst:Nat):Oh->Option (Prop×St)
 | .boxM x=>match(ev σ.s x).cells? with
  |some cs=>some (True,{σ.swap dst .any (.box (ee dst .any cs)) with s:=aD (eC dst .any σ.s) dst (.ref dst 0)})
  |none=>none
 | .st n p v=>match ev σ.s p with
  | .ref id off=>match σ.h id,(ev σ.s v).cells? with
   | .box cs,some vs=>some (vs.length=n/\off+n<=cs.length,⟨σ.s,aD σ.h id (.box (splice cs off vs))⟩)
   |_,_=>none
  | .vref id sz i off=>match σ.h id,(ev σ.s v).cells? with
   | .vec e N rows,some vs=>match rows[i]? with
    |some r=>some (N=sz/\vs.length=n/\off+n<=r.length,⟨σ.s,aD σ.h id (.vec e N (rows.set i (splice r off vs)))⟩)
    |none=>none
   |_,_=>none
  |_=>none
 | .app e sz x y=>match ev σ.s x,yR (ev σ.s y) with
  | .vec id,some f=>match σ.h id with
   | .vec W N rows=>some (W=e/\N=sz/\(∀ r∈f,r.length=sz)/\rows.length+f.length<=137438953472,cZ σ dst id e sz (rows++f))
   |_=>none
  | .nils,some f=>some ((∀ r∈f,r.length=sz)/\f.length<=137438953472,cZ σ dst dst e sz f)
  | .lit N n cs,some f=>some (N=sz/\0<f.length/\(∀ r∈f,r.length=sz)/\n+f.length<=137438953472,cZ σ dst dst e sz (fN sz n cs++f))
  |_,_=>none
 | .appS e x y=>match ev σ.s x,ev σ.s y with
  | .vec id,.d (.str l)=>match σ.h id with
   | .vec W N rows=>some (W=e/\N=1/\rows.length+l.length<=137438953472,cZ σ dst id e 1 (rows++l.map fun b=>[.d (.int .u8 b.toNat)]))
   |_=>none
  | .nils,.d (.str l)=>some (l.length<=137438953472,cZ σ dst dst e 1 (l.map fun b=>[.d (.int .u8 b.toNat)]))
  |_,_=>none
 | .mkmap kk=>some (True,{σ.swap dst .any (.map kk []) with s:=aD (eC dst .any σ.s) dst (.mp dst)})
 | .mset kk m k v=>match ev σ.s m,ev σ.s k with
  | .mp id,.d x=>match σ.h id with
   | .map v4 kv=>some (v4=kk/\kk.fits x=true,⟨σ.s,aD σ.h id (.map kk (nR kv x (ev σ.s v)))⟩)
   |_=>none
  |_,_=>none
 | .trunc sz x hi=>match ev σ.s x,ev σ.s hi with
  | .vec id,.d (.int _ n)=>match σ.h id with
   | .vec e N rows=>some (N=sz/\0<=n/\n<=rows.length,cZ σ dst id e sz (rows.take n.toNat))
   |_=>none
  |_,_=>none
 | .slM e sz xs=>match kQ sz (xs.map (ev σ.s)) with
  |some cs=>some (True,cZ σ dst dst e sz (fN sz xs.length cs))
  |none=>none
 | .mkS e sz z x y=>match z.cells?,ev σ.s x,ev σ.s y with
  |some cs,.d (.int _ n),.d (.int _ m)=>some (cs.length=sz/\0<=n/\n<=m/\m<=137438953472,cZ σ dst dst e sz (List.replicate n.toNat cs))
  |_,_,_=>none
 | .bldM T e=>some (True,{σ.swap dst .any (.bld T e []) with s:=aD (eC dst .any σ.s) dst (.ref dst 0)})
def mJ (P:Program) (N:Nat) (op:Op) (dst:Option Tmp) (d:Nat):Oh->Bool
 | .boxM y=>dst==some d&&decide (d<N)&&(match op with
  | .box _ x=>aG N x y
  | .alloc t=>Hn P t y
  |_=>false)
 | .st n p v=>dst==none&&(match op with
  | .store t x y=>aG N x p&&aG N y v&&(P.info? t).isSome&&P.cellsOf t==n
  |_=>false)
 | .app e sz x y=>dst==some d&&decide (d<N)&&(match op with
  | .call {callee:= .builtin .append,args,argTypes}=>(match args.toList,argTypes.toList with
   |[L,y'],[t,t']=>aG N L x&&aG N y' y&&t==t'&&(match P.underlying t with
    |some (.slice W)=>W==e&&(match P.info? e with|some i=>i.size==sz&&decide (0<sz)&&decide (i.bytes<=1024)&&(match i.zero with|some z=>z.cells.size==sz|none=>false)|none=>false)
    |_=>false)
   |_,_=>false)
  |_=>false)
 | .appS e x y=>dst==some d&&decide (d<N)&&(match op with
  | .call {callee:= .builtin .append,args,argTypes}=>(match args.toList,argTypes.toList with
   |[L,y'],[t,t']=>aG N L x&&aG N y' y&&(match P.underlying t' with|some .string=>true|_=>false)&&(match P.underlying t with
    |some (.slice W)=>W==e&&(match P.info? e with|some i=>i.size==1&&i.bytes==1&&(match i.zero with|some (.int .u8 0)=>true|_=>false)|none=>false)
    |_=>false)
   |_,_=>false)
  |_=>false)
 | .mkmap kk=>dst==some d&&decide (d<N)&&(match op with
  | .makeMap t none=>(match P.underlying t with|some (.map kt _)=>EJ P kt==some kk|_=>false)
  |_=>false)
 | .mset kk m k v=>dst==none&&(match op with
  | .mapUpdate t x y z=>aG N x m&&aG N y k&&aG N z v&&(match P.underlying t with|some (.map kt _)=>EJ P kt==some kk|_=>false)
  |_=>false)
 | .trunc sz y h=>dst==some d&&decide (d<N)&&(match op with
  | .slice t x none (some hi) none=>aG N x y&&aG N hi h&&(match P.underlying t with|some (.slice e)=>(P.info? e).isSome&&P.cellsOf e==sz&&decide (0<sz)|_=>false)
  |_=>false)
 | .slM e sz xs=>dst==some d&&decide (d<N)&&(match op with
  | .buildSlice t n parts=>n==parts.size&&o4 N 0 parts.toList xs&&(match P.underlying t with
   |some (.slice W)=>W==e&&(match P.info? W with|some i=>i.size==sz&&decide (0<sz)&&decide (n * sz<=16777216)&&(match i.zero with|some z=>z.cells.size==sz|none=>false)|none=>false)
   |_=>false)
  |_=>false)
 | .mkS e sz z x y=>dst==some d&&decide (d<N)&&(match op with
  | .makeSlice t l o=>aG N l x&&aG N o y&&(match P.underlying t with
   |some (.slice W)=>W==e&&(match P.info? W with|some i=>i.size==sz&&decide (0<sz)&&decide (i.bytes<=1024)&&(match i.zero with|some v=>v.cells.size==sz&&rv v z|none=>false)|none=>false)
   |_=>false)
  |_=>false)
 | .bldM T _=>dst==some d&&decide (d<N)&&(match op with
  | .alloc t=>t==T&&(match P.info? t with|some i=>(match i.zero with|some z=>(match z.cells.toList with|[.pointer none,.slice none 0 0]=>true|_=>false)|none=>false)|none=>false)
  |_=>false)
section
variable {P:Program} {c:Cx} {σ:St} {κ:Nat->Value} {φ:Nat->List Nat} {a:Act} {w:World}
theorem P2 {cs:List DV} (h:aN w M cs vs):an w M κ (dR cs) vs:=an.of_d h
theorem Dk (rows:List (List DV)):(rows.map dR).flatten=dR rows.flatten:=by
 induction rows with
 |nil=>rfl
 |cons r rows ih=>simp[dR] at ih⊢;exact ih
theorem Dl {g:List Value} (h:∀ x∈us,x.oneCell'=true) (k:∀ x∈g,x.oneCell'=true):∀ x∈us.take off++g++us.drop (off+g.length),x.oneCell'=true:=by
 intro x hx
 simp only[Ta] at hx
 rcases hx with(hx|hx)|hx
 ·exact h x (Tm hx)
 ·exact k x hx
 ·exact h x (TE hx)
theorem wR {sz:Nat}:∀ (rows:List (List SV)) (i off:Nat) (r vs:List SV),(∀ q∈rows,q.length=sz)->rows[i]?=some r->off+vs.length<=r.length->
  (rows.set i (splice r off vs)).flatten=splice rows.flatten (i * sz+off) vs
 |[],i,off,r,vs,_,h,_=>by simp at h
 |q::rows,0,off,r,vs,R,h,r9=>by
  simp at h;subst h
  simp only[List.set_cons_zero,TB,Nat.zero_mul,TJ,splice]
  rw[List.take_append_of_le_length oM,List.drop_append_of_le_length oM]
  simp
 |q::rows,i+1,off,r,vs,R,h,r9=>by
  have hq:=R q oS
  have ih:=wR (sz:=sz) rows i off r vs (fun q hq=>R q (by simp[hq])) (by simpa using h) r9
  simp only[List.set_cons_succ,TB]
  rw[ih]
  unfold splice
  rw[show(i+1) * sz+off=q.length+(i * sz+off) by rw[T2];omega]
  rw[List.take_length_add_append,show q.length+(i * sz+off)+vs.length=q.length+(i * sz+off+vs.length) by omega,List.drop_length_add_append]
  simp
theorem zX (w:World) (g:Nat) (cs:Array Value):(w.setRow g cs).os=w.os/\(w.setRow g cs).tape=w.tape/\(w.setRow g cs).output=w.output/\(w.setRow g cs).heap.size=w.heap.size/\∀ b,b≠g->(w.setRow g cs).heap[b]?=w.heap[b]?:=
 ⟨rfl,rfl,rfl,by simp[World.setRow],fun b hb=>setRow_other w g b cs hb⟩
theorem L_ {o:Nat} {B:Array Value} (hi:(P.info? t).isSome=true) (hn:P.cellsOf t=n) (hx:a.eval x= .pointer (some ⟨b,o,none⟩)) (hv:(a.eval y).cells=vs.toArray) (hl:vs.length=n) (s:∀ x∈vs,x.oneCell'=true) (hb:w.heap[b]?=some (.cells B T (0,0))) (r9:o+vs.length<=B.size) (dst:Option Tmp) (ty:TypeId) (S:String) (U:Array Edge) (gd:Option (Nat×Bool)):
  (execOp a.eval ⟨dst,.store t x y,ty,S,U,gd⟩).run P w= .ok .skip (w.setRow b (B.toList.take o++vs++B.toList.drop (o+vs.length)).toArray):=by
 have hs:=run_storeCells_at P b o T vs 0 B w hb (by simpa using r9) s
 simp only[UC] at hs
 have d:¬ (vs.toArray.size≠P.cellsOf t):=by simp;omega
 simp only[execOp,Instr.storeAt,Instr.sureAddr,hx,Sem.run_bind,Sem.run_pure,Result.andThen_ok,storeVar,dv hi,hv]
 rw[Ul d]
 simp only[hs,Sem.run_bind,Result.andThen_ok,Sem.run_pure]
def kT (P:Program) (c:Cx) (o:Oper) (a:Act) (w:World) (X:St):Prop:=
 ∃ v w' W h6,(execOp a.eval o).run P w= .ok v w'/\((∃ u,v= .value u/\cH c X W h6 (a.put o.dst u) w')\/(v= .skip/\cH c X W h6 (a.put o.dst undef) w'))
theorem yk (hr:cH c σ κ φ a w) (hb:b∈φ id):¬ c.M0 b:=fun h=>by
 have h1:=hr.m0 b h
 rcases(hr.mine id b hb).2 with h2|h2
 ·omega
 ·exact h1.2 h2
theorem Ma (hr:cH c σ κ φ a w) (hd:o.dst=some d) (h2:∀ u∈vs,u.oneCell'=true) (E:an w (own c φ) κ cs vs) (F:(execOp a.eval o).run P w= .ok (.value (.pointer (some ⟨w.heap.size,0,none⟩))) (w.alloc (.cells vs.toArray T))) (r3:d<c.N):
  kT P c o a w {σ.swap d .any (.box (ee d .any cs)) with s:=aD (eC d .any σ.s) d (.ref d 0)}:=by
 have hB:Below w.heap.size w (w.alloc (.cells vs.toArray T)):=(Below.refl _ _).alloc (S0 _) _
 have Q:∀ b∈[w.heap.size],(w.heap.size<=b\/b∈φ d)/\b<(w.alloc (.cells vs.toArray T)).heap.size:=fun b hb=>by
  simp at hb;subst hb;exact⟨.inl (S0 _),by simp⟩
 have N:=uH hr (id:=d) hB.size (fun b hb _=>hB.block b hb) Q
 have j:cH c (σ.swap d .any (.box (ee d .any cs))) (aD κ d (.pointer (some ⟨w.heap.size,0,none⟩))) (aD φ d [w.heap.size]) a (w.alloc (.cells vs.toArray T)):=by
  refine hr.swap rfl rfl rfl rfl hB.size (fun b hb _=>hB.block b hb) Q oS (by unfold ba;trivial) ?_
  exact⟨w.heap.size,T,vs,[],by rw[au],heap_alloc_new w _,h2,ar.of_S _ _ (uG N (by unfold ba;trivial) cs vs E),rfl⟩
 refine⟨.value (.pointer (some ⟨w.heap.size,0,none⟩)),w.alloc (.cells vs.toArray T),aD κ d (.pointer (some ⟨w.heap.size,0,none⟩)),aD φ d [w.heap.size],F,.inl ⟨.pointer (some ⟨w.heap.size,0,none⟩),rfl, ?_⟩⟩
 rw[hd]
 exact j.putS (dst:=d) r3 (by simp only[ah];exact⟨w.heap.size,by rw[au],rfl⟩)
theorem P3 (hr:cH c σ κ φ a w) {T:Nat} (hi:P.info? T=some i) (hz:i.zero=some z) (hc:z.cells.toList=[.pointer none,.slice none 0 0]) (ty:TypeId) (S:String) (U:Array Edge) (gd:Option (Nat×Bool)) (r3:d<c.N):
  kT P c ⟨some d,.alloc T,ty,S,U,gd⟩ a w {σ.swap d .any (.bld T e []) with s:=aD (eC d .any σ.s) d (.ref d 0)}:=by
 have f:z.cells=[.pointer none,.slice none 0 0].toArray:=by rw[<-hc,Array.toArray_toList]
 have F:=AR (P:=P) (a:=a) (w:=w) hi hz f (dst:=some d) (ty:=ty) (S:=S) (U:=U) (gd:=gd)
 have hB:Below w.heap.size w (w.alloc (.cells [.pointer none,.slice none 0 0].toArray T)):=(Below.refl _ _).alloc (S0 _) _
 have Q:∀ b∈[w.heap.size],(w.heap.size<=b\/b∈φ d)/\b<(w.alloc (.cells [.pointer none,.slice none 0 0].toArray T)).heap.size:=fun b hb=>by
  simp at hb;subst hb;exact⟨.inl (S0 _),by simp⟩
 have j:cH c (σ.swap d .any (.bld T e [])) (aD κ d (.pointer (some ⟨w.heap.size,0,none⟩))) (aD φ d [w.heap.size]) a (w.alloc (.cells [.pointer none,.slice none 0 0].toArray T)):=by
  refine hr.swap rfl rfl rfl rfl hB.size (fun b hb _=>hB.block b hb) Q oS (by unfold ba;trivial) ?_
  exact⟨w.heap.size,.pointer none,.slice none 0 0,by rw[au],heap_alloc_new w _,.inl rfl,World.ownsRowF_nil _ _ _ _,rfl⟩
 refine⟨.value (.pointer (some ⟨w.heap.size,0,none⟩)),w.alloc (.cells [.pointer none,.slice none 0 0].toArray T),aD κ d (.pointer (some ⟨w.heap.size,0,none⟩)),aD φ d [w.heap.size],F,.inl ⟨.pointer (some ⟨w.heap.size,0,none⟩),rfl, ?_⟩⟩
 exact j.putS (dst:=d) r3 (by simp only[ah];exact⟨w.heap.size,by rw[au],rfl⟩)
theorem P4 (hr:cH c σ κ φ a w) {y:SX} (Z:aG c.N x y=true) (hc:(ev σ.s y).cells?=some cs) (ty:TypeId) (S:String) (U:Array Edge) (gd:Option (Nat×Bool)) (r3:d<c.N):
  kT P c ⟨some d,.box T x,ty,S,U,gd⟩ a w {σ.swap d .any (.box (ee d .any cs)) with s:=aD (eC d .any σ.s) d (.ref d 0)}:=by
 obtain⟨vs,h1,h2,E⟩:=(am hr Z).cells hr.kok hc
 refine Ma hr rfl h2 E (T:=T) ?_ r3
 simp only[execOp,Instr.box,newVar,newRow,newObj,h1,Sem.run_bind,Sem.run,Result.andThen_ok,Sem.run_pure]
 rfl
theorem Mb (hr:cH c σ κ φ a w) {v:SV} (hi:P.info? t=some i) (hz:i.zero=some z) (hv:rv z v=true) (hc:v.cells?=some cs) (ty:TypeId) (S:String) (U:Array Edge) (gd:Option (Nat×Bool)) (r3:d<c.N):
  kT P c ⟨some d,.alloc t,ty,S,U,gd⟩ a w {σ.swap d .any (.box (ee d .any cs)) with s:=aD (eC d .any σ.s) d (.ref d 0)}:=by
 obtain⟨vs,h1,h2,E⟩:=(pM (w:=w) (M:=own c φ) (κ:=κ) hv).cells hr.kok hc
 exact Ma hr rfl h2 E (AR hi hz h1) r3
theorem KR (hr:cH c σ κ φ a w) {v:SX} {vs:List SV} (h1:aG c.N x p=true) (h2:aG c.N y v=true) (hi:(P.info? t).isSome=true) (hn:P.cellsOf t=n) (hp:ev σ.s p= .ref id off) (hh:σ.h id= .box cs) (hv:(ev σ.s v).cells?=some vs) (hl:vs.length=n) (r9:off+n<=cs.length) (ty:TypeId) (S:String) (U:Array Edge) (gd:Option (Nat×Bool)):
  kT P c ⟨none,.store t x y,ty,S,U,gd⟩ a w ⟨σ.s,aD σ.h id (.box (splice cs off vs))⟩:=by
 have hx:=am hr h1
 rw[hp] at hx
 simp only[ah] at hx
 obtain⟨b,r4,hx⟩:=hx
 obtain⟨us,E,k,C⟩:=(am hr h2).cells hr.kok hv
 have r2:=hr.chunks id
 rw[hh] at r2
 obtain⟨b',T,g,G,r3,u,s,r0,K⟩:=r2
 rw[r4] at r3;simp at r3;subst r3
 have r5:=C.length
 have h:=r0.length
 have F:=L_ (P:=P) (a:=a) hi hn hx E oM k u oT none ty S U gd
 simp only at F
 obtain⟨j,A,d,f,M⟩:=zX w b (g.take off++us++g.drop (off+us.length)).toArray
 obtain⟨G',O,z⟩:=r0.splice C off
 refine⟨.skip,_,κ,aD φ id (b::G'),F,.inr ⟨rfl, ?_⟩⟩
 refine hr.modify (J:=b::G') j A d f (fun b' h6=>M b' fun e=>h6 (by rw[K,e];simp)) (by rw[K];exact O.cons_cons b) fun N=> ?_
 refine⟨b,T,_,G',r4,setRow_heap w b _ _ T _ u,Dl s k,ar.ext N _ _ _ (fun b' h6=>M b' fun e=> ?_) z,rfl⟩
 have:=hr.nod id
 rw[K] at this
 exact(UQ.1 this).1 (by rw[<-e];exact O.subset h6)
theorem Hy {i:Nat} {vs:List SV} (R:∀ r∈rows,r.length=sz) (h:ar w M κ rows.flatten xs G) (k:an w M κ vs us) (V:rows[i]?=some r) (r9:off+vs.length<=r.length):
  ∃ G',G'.Sublist G/\ar w M κ (rows.set i (splice r off vs)).flatten (xs.take (i * sz+off)++us++xs.drop (i * sz+off+us.length)) G':=by
 rw[wR (sz:=sz) rows i off r vs R V r9]
 exact h.splice k _
theorem KS (hr:cH c σ κ φ a w) {v:SX} {i:Nat} {vs:List SV} (h1:aG c.N x p=true) (h2:aG c.N y v=true) (hi:(P.info? t).isSome=true) (hn:P.cellsOf t=n) (hp:ev σ.s p= .vref id sz i off) (hh:σ.h id= .vec e sz rows) (hv:(ev σ.s v).cells?=some vs) (V:rows[i]?=some r) (hl:vs.length=n) (r9:off+n<=r.length) (ty:TypeId) (S:String) (U:Array Edge) (gd:Option (Nat×Bool)):
  kT P c ⟨none,.store t x y,ty,S,U,gd⟩ a w ⟨σ.s,aD σ.h id (.vec e sz (rows.set i (splice r off vs)))⟩:=by
 have hx:=am hr h1
 rw[hp] at hx
 simp only[ah] at hx
 obtain⟨b,len,D,r4,hx⟩:=hx
 obtain⟨us,E,k,C⟩:=(am hr h2).cells hr.kok hv
 have r2:=hr.chunks id
 rw[hh] at r2
 obtain⟨xs,G,ho,s,R,r0,K⟩:=r2
 have r5:=C.length
 have Y:=r0.length
 have L:=R r (ST V)
 have h5:i<rows.length:=(SY.1 V).1
 rcases ho.2 with⟨v8,h8⟩|⟨g,W,B,I,hB,u,m,h4,Z,H⟩
 ·omega
 ·rw[r4] at I;simp at I
  obtain⟨rfl,rfl,rfl⟩:=I
  have qh:hP (κ id)=[b]:=by rw[r4];rfl
  rw[qh] at K
  have T:=ho.1
  have o:i * sz+off+us.length<=rows.length * sz:=by
   have h1:(i+1) * sz<=rows.length * sz:=Uw _ h5
   rw[T2] at h1;omega
  have Q:rows.length * sz<=D * sz:=Uw _ m
  have F:=L_ (P:=P) (a:=a) hi hn hx E oM k u oM none ty S U gd
  obtain⟨j,A,d,f,M⟩:=zX w b (B.toList.take (i * sz+off)++us++B.toList.drop (i * sz+off+us.length)).toArray
  obtain⟨G',O,z⟩:=Hy (off:=off) R r0 C V oM
  refine⟨.skip,_,κ,aD φ id (b::G'),F,.inr ⟨rfl, ?_⟩⟩
  refine hr.modify (J:=b::G') j A d f (fun b' h6=>M b' fun e=>h6 (by rw[K,e];simp)) (by rw[K];exact O.cons_cons b) fun N=> ?_
  refine⟨xs.take (i * sz+off)++us++xs.drop (i * sz+off+us.length),G',⟨?_,.inr ⟨b,D,_,by rw[r4];simp,hB,setRow_heap w b _ _ e _ u,by simpa using m,h4, ?_, ?_⟩⟩,Dl s k, ?_, ?_,by rw[qh];rfl⟩
  ·simp;omega
  ·simp;omega
  ·simp only[List.length_set]
   rw[<-H,List.take_take,List.drop_take]
   rw[show min (i * sz+off) (rows.length * sz)=i * sz+off by omega]
   rw[S4,List.take_append,List.take_append]
   simp only[Tc,U3]
   rw[Tr (l:=List.take (i * sz+off) B.toList) oT]
   rw[show min (i * sz+off) B.size=i * sz+off by omega]
   rw[Tr (l:=us) oM]
   simp only[S4]
   congr 3
   omega
  ·intro q hq
   rcases List.mem_or_eq_of_mem_set hq with h|h
   ·exact R q h
   ·subst h;simp[splice];omega
  ·refine ar.ext N _ _ _ (fun b' h6=>M b' fun e=> ?_) z
   have:=hr.nod id
   rw[K] at this
   exact(UQ.1 this).1 (by rw[<-e];exact O.subset h6)
theorem vm (v:Value) (h:∀ x,v≠ .pointer x) (h':∀ x,v≠ .map x):yj v=v.ownBlock:=by
 cases v with
 |slice x n c=>cases x<;>rfl
 |pointer x=>exact absurd rfl (h x)
 |map x=>exact absurd rfl (h' x)
 |_=>rfl
theorem Gp (w:World) {ty e:TypeId} (Y:P.underlying t=some (.slice e)) (hi:P.info? e=some i) (hz:i.zero=some z) (h7:w.ownsRow 0 e i.size v n xs) {X:Addr} {m c:Nat} (hl:k.length=m * i.size) (y:∀ j u,k[j]?=some u->w.cell? (X.add j)=some u) (h1:∀ u∈k,u.oneCell'=true) (Z:0<m) (d:n+m<=137438953472) (h:(n+m) * i.bytes<=140737488355328) (F:(Builtin.append_ #[t,t] ty #[v,.slice (some X) m c]).run P w= .ok v' w'):
  ∀ b,yj v'=some b->w.heap.size<=b\/yj v=some b:=by
 intro b hb
 rcases h7.2 with⟨rfl,rfl⟩|⟨g,D,B,rfl,l,hg,r8,V,r4,H⟩
 ·rw[TJ] at h
  have:=run_append_nil (P:=P) w t ty e i z Y hi hz X m c k hl y Z oM oM
  rw[this] at F
  simp only[Result.ok.injEq] at F
  rw[<-F.1] at hb
  simp[yj] at hb
  exact .inl oM
 ·by_cases f:n+m<=D
  ·have o:n * i.size+k.length<=B.size:=by rw[hl,r4,<-T2];exact Uw _ f
   have:=run_append_room (P:=P) w t ty e i Y hi g n D B hg X m c k hl y h1 f o
   rw[this] at F
   simp only[Result.ok.injEq] at F
   rw[<-F.1] at hb
   exact .inr hb
  ·have:=run_append_grow (P:=P) w t ty e i z Y hi hz ⟨g,0,none⟩ n D xs h7.1 (h7.cells (g:=g) rfl) X m c k hl y oM oM (growslice_fits oM h)
   rw[this] at F
   simp only[Result.ok.injEq] at F
   rw[<-F.1] at hb
   simp[yj] at hb
   exact .inl oM
theorem A4 {y:SV} {u:Value} (hy:ah w M κ y u) (h:yR y=some f) (R:∀ r∈f,r.length=sz):
  ∃ X D,∃ k:List Value,u= .slice X f.length D/\an w M κ f.flatten k/\(∀ x∈k,x.oneCell'=true)/\(f=[]/\k=[]\/∃ b o,X=some ⟨b,o,none⟩/\∀ j v,k[j]?=some v->w.cell? ⟨b,o+j,none⟩=some v):=by
 have plain:(∀ sz n cs,y≠ .lit sz n cs)->∃ X D,∃ k:List Value,u= .slice X f.length D/\an w M κ f.flatten k/\(∀ x∈k,x.oneCell'=true)/\(f=[]/\k=[]\/∃ b o,X=some ⟨b,o,none⟩/\∀ j v,k[j]?=some v->w.cell? ⟨b,o+j,none⟩=some v):=fun A=>by
  have h':∃ rows,y.toDV=some (.slice rows)/\f=rows.map dR:=by
   unfold yR at h
   split at h
   ·rename_i sz n cs;exact absurd rfl (A sz n cs)
   ·split at h
    ·rename_i rows hd;simp only[SN] at h;exact⟨rows,hd,h.symm⟩
    ·cases h
  obtain⟨rows,hd,rfl⟩:=h'
  have i:=ah.toDV _ _ _ hy hd
  unfold ba at i
  obtain⟨X,D,l,m,d,e⟩:=i
  by_cases g:rows=[]
  ·subst g;exact⟨X,D,[],l,by simp[an],by simp,.inl ⟨rfl,rfl⟩⟩
  ·rcases e with e|⟨b,o,N,rfl,Z,hb,p⟩
   ·exact absurd e g
   ·rw[bi.iff] at p
    obtain⟨vs,s0,s3,q⟩:=p.2.values
    exact⟨_,D,vs,by simpa using l,by rw[Dk];exact P2 s0,s3,.inr ⟨b,o,rfl,q⟩⟩
 cases y with
 |lit N n cs=>
  simp only[yR,SN] at h
  subst h
  simp only[ah] at hy
  obtain⟨b,vs,hv,h1,h2,E,h4,h5,h6⟩:=hy
  refine⟨_,n,vs,by rw[ir];exact hv, ?_,h4,.inr ⟨b,0,rfl,fun j v hj=>by rw[TJ];exact h5 j v hj⟩⟩
  rw[nP _ _ _ (by rw[<-h6.length];exact E)]
  exact h6
 |_=>exact plain oS
theorem Dm (hr:cH c σ κ φ a w) (C:o.dst=some d) (F:(execOp a.eval o).run P w= .ok (.value v') w') (ho:w.ownsRow 0 e sz (a.eval L) rows.length xs) (s:∀ x∈xs,x.oneCell'=true) (M:∀ r∈rows,r.length=sz) (r0:ar w (own c φ) κ rows.flatten xs G) (K:φ id=hP (a.eval L)++G) (p:w'.ownsRow 0 e sz v' (rows.length+f.length) (xs++k)) (q:w.grownBy w' (a.eval L).ownBlock) (r7:∀ b,yj v'=some b->w.heap.size<=b\/yj (a.eval L)=some b) (h1:an w (own c φ) κ f.flatten k) (h2:∀ x∈k,x.oneCell'=true) (R:∀ r∈f,r.length=sz) (r3:d<c.N):
  kT P c o a w (cZ σ d id e sz (rows++f)):=by
 have l:∀ (v:Value) (n:Nat) (xs:List Value) (w:World),w.ownsRow 0 e sz v n xs->(∀ x,v≠ .pointer x)/\(∀ x,v≠ .map x)/\v.oneCell'=true:=fun v n xs w h=>by
  rcases h.2 with⟨rfl,_⟩|⟨g,c,u,rfl,_⟩<;>simp[Value.oneCell']
 have B:=l _ _ _ _ ho
 have s3:=l _ _ _ _ p
 have h7:(a.eval L).ownBlock=yj (a.eval L):=(vm _ B.1 B.2.1).symm
 have A:∀ b,yj (a.eval L)=some b->b∈φ id:=fun b hb=>by rw[K];simp[hP,hb]
 have m:∀ b,b<w.heap.size->b∉hP (a.eval L)->w'.heap[b]?=w.heap[b]?:=fun b hb hn=>q.block b hb fun J=>hn (by rw[h7] at J;simp[hP,<-J])
 have h9:∀ b,yj v'=some b->b<w'.heap.size:=fun b hb=>(p.lt b (by rw[<-vm _ s3.1 s3.2.1];exact hb)).2
 have y:∀ b∈G,b∈φ id:=fun b hb=>by rw[K];simp[hb]
 have Q:∀ b∈hP v'++G,(w.heap.size<=b\/b∈φ id)/\b<w'.heap.size:=fun b hb=>by
  rcases Ta.1 hb with hb|hb
  ·simp only[hP,Option.mem_toList] at hb
   exact⟨(r7 b hb).imp _root_.id (A b),h9 b hb⟩
  ·exact⟨.inr (y b hb),Tt (hr.mine id b (y b hb)).1 q.size⟩
 have i:=hr.nod id
 rw[K] at i
 have r4:(hP v'++G).Nodup:=by
  have t:=(TC.1 i).2.1
  unfold hP
  cases hb:yj v' with
  |none=>simpa using t
  |some b=>
   simp only[Option.toList_some,S_,Tb,UQ]
   refine⟨fun Y=> ?_,t⟩
   rcases r7 b hb with h|h
   ·have:=(hr.mine id b (y b Y)).1;omega
   ·exact(TC.1 i).2.2 b (by simp[hP,h]) b Y rfl
 have z:∀ b,b<w.heap.size->b∉φ id->w'.heap[b]?=w.heap[b]?:=fun b hb hn=>m b hb fun h=>hn (by rw[K];simp[h])
 have N:=uH hr (id:=id) q.size z Q
 have D:∀ b∈G,w'.heap[b]?=w.heap[b]?:=fun b hb=>m b (hr.mine id b (y b hb)).1 fun h=>(TC.1 i).2.2 b h b hb rfl
 have j:cH c (σ.swap id .any (.vec e sz (jG id .any (rows++f)))) (aD κ id v') (aD φ id (hP v'++G)) a w':=by
  refine hr.swap s3.2.2 q.os q.tape q.output q.size z Q r4 (by unfold ba;trivial) ?_
  refine⟨xs++k,G,by rw[au,kS,SW];exact p,fun x hx=> ?_, ?_, ?_,by rw[au]⟩
  ·rcases Ta.1 hx with hx|hx
   ·exact s x hx
   ·exact h2 x hx
  ·refine uF _ _ _ _ fun r r1=> ?_
   rcases Ta.1 r1 with r1|r1
   ·exact M r r1
   ·exact R r r1
  ·rw[lE,U4]
   refine zV N (by unfold ba;trivial) _ _ _ D ?_
   simpa using r0.append (ar.of_S _ _ h1)
 refine⟨.value v',w',aD κ id v',aD φ id (hP v'++G),F,.inl ⟨v',rfl, ?_⟩⟩
 rw[C]
 exact j.putS (dst:=d) r3 (by simp only[ah,au])
theorem BW (hr:cH c σ κ φ a w) {t:Nat} {y:SX} (ha:args.toList=[L,y']) (Q:ts.toList=[t,t]) (hu:P.underlying t=some (.slice e)) (hi:P.info? e=some i) (I:i.size=sz) (r6:0<sz) (J:i.bytes<=1024) (hz:i.zero=some z) (H:z.cells.size=sz) (hy:aG c.N y' y=true) (r8:yR (ev σ.s y)=some f) (R:∀ r∈f,r.length=sz) (C:rows.length+f.length<=137438953472) (h7:∃ xs G,w.ownsRow 0 e sz (a.eval L) rows.length xs/\(∀ x∈xs,x.oneCell'=true)/\(∀ r∈rows,r.length=sz)/\ar w (own c φ) κ rows.flatten xs G/\φ id=hP (a.eval L)++G) (ty:TypeId) (S:String) (U:Array Edge) (gd:Option (Nat×Bool)) (r3:d<c.N):
  kT P c ⟨some d,.call {callee:= .builtin .append,args,argTypes:=ts},ty,S,U,gd⟩ a w (cZ σ d id e sz (rows++f)):=by
 have e1:args= #[L,y']:=by rw[<-TP];exact ha
 have e2:ts= #[t,t]:=by rw[<-TP];exact Q
 subst e1 e2
 obtain⟨xs,G,ho,s,M,r0,K⟩:=h7
 obtain⟨X,D,k,l,h1,h2,E⟩:=A4 (am hr hy) r8 R
 have s1:k.length=f.length * sz:=by rw[h1.length,kR R]
 obtain⟨v',w',F,p,q,r7⟩:∃ v' w',(Builtin.append_ #[t,t] ty #[a.eval L,a.eval y']).run P w= .ok v' w'/\w'.ownsRow 0 e sz v' (rows.length+f.length) (xs++k)/\w.grownBy w' (a.eval L).ownBlock/\∀ b,yj v'=some b->w.heap.size<=b\/yj (a.eval L)=some b:=by
  rcases E with⟨rfl,rfl⟩|⟨b,o,rfl,m⟩
  ·refine⟨a.eval L,w, ?_,by simpa using ho,⟨rfl,rfl,rfl,S0 _,fun _ _ _=>rfl⟩,fun b hb=> .inr hb⟩
   have v:(Builtin.firstCells sz 0 (.slice X 0 D)).run P w= .ok #[] w:=by
    cases X<;>simp[Builtin.firstCells,loadCells,loadCellsFrom]
   rcases ho.2 with⟨hv,hn⟩|⟨g,W,B,hv,_,_,n,_⟩
   ·simp at l
    simp[Builtin.append_,hv,l,run_underlying hu,sizeOf,typeInfo,hi,Builtin.lenOf,I,v]
   ·simp at l
    have T:∀ A:Addr,(storeCells A [] 0).run P w= .ok () w:=fun A=>by simp[storeCells]
    simp[Builtin.append_,hv,l,run_underlying hu,sizeOf,typeInfo,hi,Builtin.lenOf,I,v,n,T]
  ·have h:(rows.length+f.length) * i.bytes<=140737488355328:=by
    have:=Nat.mul_le_mul C J
    omega
   obtain⟨v',w',O,s2,r5,_⟩:=run_append_own (P:=P) w 0 t ty e i z sz i.bytes hu hi hz I rfl H r6 (a.eval L) rows.length xs ho ⟨b,o,none⟩ f.length D k s1 (fun j u hj=>by rw[gy];exact m j u hj) h2 (by simp only[maxLen];omega) h (To _)
   refine⟨v',w',by rw[l];exact O,s2,r5, ?_⟩
   by_cases V:f.length=0
   ·have N:f=[]:=Te.1 V
    subst N
    have h8:k=[]:=Te.1 (by simpa using s1)
    subst h8
    rcases ho.2 with⟨hv,hn⟩|⟨g,W,B,hv,_,hg,n,_,Z,_⟩
    ·have:(Builtin.append_ #[t,t] ty #[.slice none 0 0,.slice (some ⟨b,o,none⟩) 0 D]).run P w= .ok (.slice none 0 0) w:=by
      simp[Builtin.append_,run_underlying hu,sizeOf,typeInfo,hi,Builtin.lenOf,Builtin.firstCells,loadCells,loadCellsFrom]
     rw[hv] at O
     simp only[TN] at O
     rw[this] at O
     simp only[Result.ok.injEq] at O
     intro b' h6
     rw[<-O.1] at h6
     simp[yj] at h6
    ·subst I
     have:=run_append_room (P:=P) (ty:=ty) w t e i hu hi g rows.length W B hg ⟨b,o,none⟩ 0 D [] oS oS oS (by simpa using n) (by simp;rw[Z];exact Uw _ n)
     rw[hv] at O
     simp only[TN] at O
     rw[this] at O
     simp only[Result.ok.injEq] at O
     intro b' h6
     rw[<-O.1] at h6
     rw[hv]
     exact .inr h6
   ·subst I
    exact Gp (P:=P) w hu hi hz ho s1 (fun j u hj=>by rw[gy];exact m j u hj) h2 oM C h O
 refine Dm hr (L:=L) rfl ?_ ho s M r0 K p q r7 h1 h2 R r3
 obtain⟨cs,r4⟩:=hR (P:=P) (w:=w) (dst:=some d) (ty:=ty) (S:=S) (U:=U) (gd:=gd) a.eval .append #[L,y'] #[t,t]
 rw[r4]
 simp only[builtin,Sem.run_bind]
 rw[show(#[L,y'].map a.eval)= #[a.eval L,a.eval y'] by simp,F]
 rfl
theorem JJ (hr:cH c σ κ φ a w) {t u:Nat} {l:List UInt8} (ha:args.toList=[L,y']) (Q:ts.toList=[t,u]) (hu:P.underlying t=some (.slice e)) (hs:P.underlying u=some .string) (hi:P.info? e=some i) (I:i.size=1) (J:i.bytes=1) (hz:i.zero=some (.int .u8 0)) (hy:a.eval y'= .string ⟨l.toArray⟩) (C:rows.length+l.length<=137438953472) (h7:∃ xs G,w.ownsRow 0 e 1 (a.eval L) rows.length xs/\(∀ x∈xs,x.oneCell'=true)/\(∀ r∈rows,r.length=1)/\ar w (own c φ) κ rows.flatten xs G/\φ id=hP (a.eval L)++G) (ty:TypeId) (S:String) (U:Array Edge) (gd:Option (Nat×Bool)) (r3:d<c.N):
  kT P c ⟨some d,.call {callee:= .builtin .append,args,argTypes:=ts},ty,S,U,gd⟩ a w (cZ σ d id e 1 (rows++l.map fun b=>[.d (.int .u8 b.toNat)])):=by
 have e1:args= #[L,y']:=by rw[<-TP];exact ha
 have e2:ts= #[t,u]:=by rw[<-TP];exact Q
 subst e1 e2
 obtain⟨xs,G,ho,s,M,r0,K⟩:=h7
 have u8:(⟨l.toArray⟩:ByteArray).size=l.length:=by simp[ByteArray.size]
 obtain⟨v',w',F,p,q,_⟩:=Lib.run_append_own_string (P:=P) w 0 t u ty e i hu hs hi hz I J (a.eval L) rows.length xs ho ⟨l.toArray⟩ (by unfold maxLen;omega) oM (To _)
 have r7:∀ b,yj v'=some b->w.heap.size<=b\/yj (a.eval L)=some b:=by
  intro b hb
  rcases ho.2 with⟨hv,hn⟩|⟨g,D,B,hv,_,hg,r8,V,r4,H⟩
  ·by_cases hl:l.length=0
   ·have m:l=[]:=Te.1 hl
    subst m
    have hf:=Lib.run_firstCells_string (P:=P) w 1 ⟨#[]⟩
    have h0:(⟨#[]⟩:ByteArray).size=0:=rfl
    rw[h0] at hf
    have:(Builtin.append_ #[t,u] ty #[.slice none 0 0,.string ⟨#[]⟩]).run P w= .ok (.slice none 0 0) w:=by
     simp[Builtin.append_,run_underlying hu,run_underlying hs,sizeOf,typeInfo,hi,I,Builtin.lenOf,h0,hf]
    rw[hv] at F
    rw[show(([]:List UInt8).toArray)= #[] from rfl,this] at F
    simp only[Result.ok.injEq] at F
    rw[<-F.1] at hb
    simp[yj] at hb
   ·have:=run_append_nil_string (P:=P) w t u ty e i (.int .u8 0) hu hs hi hz ⟨l.toArray⟩ oM oM (by rw[J];omega)
    rw[hv,this] at F
    simp only[Result.ok.injEq] at F
    rw[<-F.1] at hb
    simp[yj] at hb
    exact .inl oM
  ·rw[hv] at F⊢
   by_cases f:rows.length+(⟨l.toArray⟩:ByteArray).size<=D
   ·have:=Lib.run_append_room_string (P:=P) w t u ty e i hu hs hi I g rows.length D B hg ⟨l.toArray⟩ f oM
    rw[this] at F
    simp only[Result.ok.injEq] at F
    rw[<-F.1] at hb
    exact .inr hb
   ·have Y:xs.length=rows.length * i.size:=by rw[I];exact ho.1
    have:=Lib.run_append_grow_string (P:=P) w t u ty e i (.int .u8 0) hu hs hi hz ⟨g,0,none⟩ rows.length D xs Y (ho.cells (g:=g) (by rw[hv];rfl)) ⟨l.toArray⟩ oM oM (by rw[J];exact growslice_fits oM oM)
    rw[this] at F
    simp only[Result.ok.injEq] at F
    rw[<-F.1] at hb
    simp[yj] at hb
    exact .inl oM
 have y:∀ (r:List UInt8),an w (own c φ) κ (r.map fun b=>[SV.d (.int .u8 b.toNat)]).flatten (r.map fun b=>Value.int .u8 b.toNat):=by
  intro r
  induction r with
  |nil=>simp[an]
  |cons b r ih=>
   simp only[S5,TB,S_,Tb,an]
   exact⟨_,_,rfl,by simp only[ah,ba],ih⟩
 refine Dm hr (L:=L) (k:=Lib.strCells ⟨l.toArray⟩) rfl ?_ ho s M r0 K (by rw[TO,<-u8];exact p) q r7 (y l) (Lib.strCells_oneCell _) (by intro r hr;obtain⟨b,_,rfl⟩:=Tu.1 hr;rfl) r3
 obtain⟨cs,r4⟩:=hR (P:=P) (w:=w) (dst:=some d) (ty:=ty) (S:=S) (U:=U) (gd:=gd) a.eval .append #[L,y'] #[t,u]
 rw[r4]
 simp only[builtin,Sem.run_bind]
 rw[show(#[L,y'].map a.eval)= #[a.eval L,a.eval y'] by simp,hy,F]
 rfl
theorem Dn (hr:cH c σ κ φ a w) (hd:o.dst=some d) (F:(execOp a.eval o).run P w= .ok (.value v') w') (hB:Below w.heap.size w w') (ho:w'.ownsRow 0 e sz v' rows.length xs) (s:∀ x∈xs,x.oneCell'=true) (R:∀ r∈rows,r.length=sz) (r0:an w (own c φ) κ rows.flatten xs) (f:∀ b,yj v'=some b->w.heap.size<=b) (r3:d<c.N):
  kT P c o a w (cZ σ d d e sz rows):=by
 have hs:(∀ x,v'≠ .pointer x)/\(∀ x,v'≠ .map x)/\v'.oneCell'=true:=by
  rcases ho.2 with⟨rfl,_⟩|⟨g,c,u,rfl,_⟩<;>simp[Value.oneCell']
 have h9:∀ b,yj v'=some b->b<w'.heap.size:=fun b hb=>(ho.lt b (by rw[<-vm _ hs.1 hs.2.1];exact hb)).2
 have Q:∀ b∈hP v',(w.heap.size<=b\/b∈φ d)/\b<w'.heap.size:=fun b hb=>by
  simp only[hP,Option.mem_toList] at hb;exact⟨.inl (f b hb),h9 b hb⟩
 have N:=uH hr (id:=d) hB.size (fun b hb _=>hB.block b hb) Q
 have j:cH c (σ.swap d .any (.vec e sz (jG d .any rows))) (aD κ d v') (aD φ d (hP v')) a w':=by
  refine hr.swap hs.2.2 hB.os hB.tape hB.output hB.size (fun b hb _=>hB.block b hb) Q (by unfold hP;cases yj v'<;>simp) (by unfold ba;trivial) ?_
  refine⟨xs,[],by rw[au,kS];exact ho,s,uF _ _ _ _ R, ?_,by rw[au,Tg]⟩
  rw[lE]
  exact ar.of_S _ _ (uG N (by unfold ba;trivial) _ _ r0)
 refine⟨.value v',w',aD κ d v',aD φ d (hP v'),F,.inl ⟨v',rfl, ?_⟩⟩
 rw[hd]
 exact j.putS (dst:=d) r3 (by simp only[ah,au])
theorem wS (w:World) {D:Nat} {p:Array Value} (hl:xs.length=n * sz) (hn:n<=D) (hc:D<=maxLen) (Z:p.size=(D - n) * sz):
  (w.alloc (.cells (xs.toArray++p) e)).ownsRow 0 e sz (.slice (some ⟨w.heap.size,0,none⟩) n D) n xs:=by
 refine⟨hl,.inr ⟨w.heap.size,D,_,rfl,To _,heap_alloc_new w _,hn,hc, ?_, ?_⟩⟩
 ·simp only[Array.size_append,List.size_toArray,hl,Z,<-T2]
  congr 1;omega
 ·simp[<-hl]
theorem P5 (hr:cH c σ κ φ a w) {t:Nat} {parts:Array (Nat×Operand)} {xs:List SV} (hu:P.underlying t=some (.slice e)) (hi:P.info? e=some i) (I:i.size=sz) (r6:0<sz) (C:n * sz<=16777216) (hz:i.zero=some z) (H:z.cells.size=sz) (hn:n=parts.size) (T:an w (own c φ) κ xs (parts.toList.map fun q=>a.eval q.2)) (s1:∀ (j:Nat) q,parts.toList[j]?=some q->q.1=j) (K:kQ sz xs=some cs) (ty:TypeId) (S:String) (U:Array Edge) (gd:Option (Nat×Bool)) (r3:d<c.N):kT P c ⟨some d,.buildSlice t n parts,ty,S,U,gd⟩ a w (cZ σ d d e sz (fN sz xs.length cs)):=by
 obtain⟨rs,F,h1,h2,E⟩:=IR (dst:=some d) (ty:=ty) (S:=S) (U:=U) (gd:=gd) hr.kok hu hi I r6 C hz H hn T s1 K
 have Y:xs.length=n:=by have:=T.length;simp[hn] at this⊢;omega
 have h7:cs.length=n * sz:=by have:=E.length;omega
 have W:n<=maxLen:=by
  have:n<=n * sz:=Nat.le_mul_of_pos_right n r6
  unfold maxLen;omega
 rw[Y]
 refine Dn hr rfl F ((Below.refl _ w).alloc (S0 _) _) (xs:=rs.flatten) ?_ h2 ?_ ?_ ?_ r3
 ·rw[ir]
  have:=wS w (e:=e) (p:= #[]) h1 (S0 _) W oS
  simpa using this
 ·exact vg sz n cs h7
 ·rw[nP sz n cs h7];exact E
 ·intro b hb
  simp only[yj,SN] at hb
  omega
theorem EP (hl:vs.length=sz) (h:0<sz):∀ n,madeCells vs.toArray (n * sz)=((List.replicate n vs).flatten).toArray:=by
 intro n
 have r9:∀ (n k:Nat) (hk:k<n * sz),(List.replicate n vs).flatten[k]?=vs[k%sz]?:=by
  intro n
  induction n with
  |zero=>intro k hk;omega
  |succ n ih=>
   intro k hk
   simp only[U5,TB]
   by_cases h1:k<sz
   ·rw[TZ oM,Nat.mod_eq_of_lt h1]
   ·rw[TK oM,hl,ih (k - sz) (by rw[Nat.succ_mul] at hk;omega),<-Nat.mod_eq_sub_mod oM]
 apply Array.ext
 ·simp[madeCells,hl]
 ·intro k h1 h2
  have hk:k<n * sz:=by simpa[madeCells] using h1
  have Z:k%sz<vs.length:=by rw[hl];exact Nat.mod_lt _ h
  have e1:=r9 n k hk
  rw[S3 (by simpa[hl] using hk),S3 Z] at e1
  simp only[SN] at e1
  simp only[madeCells,Array.getElem_map,Array.getElem_range,List.size_toArray,hl,List.getElem_toArray,e1]
  simp[Z]
theorem an.rep {M:Nat->Prop} {cs:List SV} {vs:List Value} (h:an w M κ cs vs):∀ n,an w M κ (List.replicate n cs).flatten (List.replicate n vs).flatten
 |0=>by simp[an]
 |n+1=>by simp only[U5,TB];exact h.append (an.rep h n)
theorem P6 (hr:cH c σ κ φ a w) {t:Nat} {l o:Operand} {x y:SX} {k1 k2:IntKind} {n m:Int} {g:SV} (hu:P.underlying t=some (.slice e)) (hi:P.info? e=some i) (I:i.size=sz) (r6:0<sz) (J:i.bytes<=1024) (hz:i.zero=some z) (H:z.cells.size=sz) (f:rv z g=true) (hc:g.cells?=some cs) (hl:aG c.N l x=true) (Z:aG c.N o y=true) (hx:ev σ.s x= .d (.int k1 n)) (hy:ev σ.s y= .d (.int k2 m)) (r4:cs.length=sz) (h0:0<=n) (h1:n<=m) (h2:m<=137438953472) (ty:TypeId) (S:String) (U:Array Edge) (gd:Option (Nat×Bool)) (r3:d<c.N):kT P c ⟨some d,.makeSlice t l o,ty,S,U,gd⟩ a w (cZ σ d d e sz (List.replicate n.toNat cs)):=by
 obtain⟨vs,g1,g2,g3⟩:=(pM (w:=w) (M:=own c φ) (κ:=κ) f).cells hr.kok hc
 have h:=am hr hl
 rw[hx] at h
 simp only[ah,ba] at h
 have N:=am hr Z
 rw[hy] at N
 simp only[ah,ba] at N
 have v1:vs.length=sz:=by rw[g1] at H;simpa using H
 have hb:(i.bytes:Int) * m<=281474976710656:=by
  have:(i.bytes:Int)<=1024:=by omega
  have E:(i.bytes:Int) * m<=1024 * m:=Int.mul_le_mul_of_nonneg_right this oM
  omega
 have F:=run_make (P:=P) w t e i z hu hi hz k1 k2 n m h0 h1 hb oM
 have p:madeCells z.cells (m.toNat * i.size)=((List.replicate n.toNat vs).flatten).toArray++((List.replicate (m.toNat - n.toNat) vs).flatten).toArray:=by
  rw[g1,I,EP v1 r6]
  have e1:List.replicate m.toNat vs=List.replicate n.toNat vs++List.replicate (m.toNat - n.toNat) vs:=by
   rw[List.replicate_append_replicate];congr 1;omega
  rw[e1,U4];simp only[List.append_toArray]
 have C:∀ k,((List.replicate k vs).flatten).length=k * sz:=fun k=>by simp[v1]
 refine Dn hr (v':= .slice (some ⟨w.heap.size,0,none⟩) n.toNat m.toNat) (xs:=(List.replicate n.toNat vs).flatten) rfl (w':=w.alloc (.cells (madeCells z.cells (m.toNat * i.size)) e)) ?_ ((Below.refl _ w).alloc (S0 _) _) ?_ ?_ ?_ ?_ ?_ r3
 ·simp only[execOp,h,N,F,Sem.run_bind,Result.andThen_ok,Sem.run_pure]
 ·rw[p,T9]
  exact wS w (e:=e) (C _) oM (by unfold maxLen;omega) (by rw[List.size_toArray,C])
 ·intro u j
  obtain⟨r,O,s2⟩:=List.mem_flatten.1 j
  rw[(List.mem_replicate.1 O).2] at s2
  exact g2 u s2
 ·intro r r1
  rw[(List.mem_replicate.1 r1).2];exact r4
 ·exact g3.rep _
 ·intro b h6
  simp only[yj,SN] at h6
  omega
theorem IZ (hr:cH c σ κ φ a w) {t:Nat} {x y:SX} (ha:args.toList=[L,y']) (Q:ts.toList=[t,t]) (hu:P.underlying t=some (.slice e)) (hi:P.info? e=some i) (I:i.size=sz) (J:i.bytes<=1024) (hz:i.zero=some z) (H:z.cells.size=sz) (hx:aG c.N L x=true) (M:ev σ.s x= .lit sz n cs) (hy:aG c.N y' y=true) (r8:yR (ev σ.s y)=some f) (r6:0<f.length) (R:∀ r∈f,r.length=sz) (C:n+f.length<=137438953472) (ty:TypeId) (S:String) (U:Array Edge) (gd:Option (Nat×Bool)) (r3:d<c.N):
  kT P c ⟨some d,.call {callee:= .builtin .append,args,argTypes:=ts},ty,S,U,gd⟩ a w (cZ σ d d e sz (fN sz n cs++f)):=by
 have e1:args= #[L,y']:=by rw[<-TP];exact ha
 have e2:ts= #[t,t]:=by rw[<-TP];exact Q
 subst e1 e2
 subst I
 have q:=am hr hx
 rw[M] at q
 simp only[ah] at q
 obtain⟨g,vs,s,g1,g2,g3,g4,g5,g6⟩:=q
 obtain⟨X,D,k,l,h1,h2,E⟩:=A4 (am hr hy) r8 R
 have s1:k.length=f.length * i.size:=by rw[h1.length,kR R]
 rcases E with⟨rfl,rfl⟩|⟨b,o,rfl,m⟩
 ·simp at r6
 have h:(n+f.length) * i.bytes<=140737488355328:=by
  have:=Nat.mul_le_mul C J
  omega
 have F:=run_append_grow (P:=P) w t ty e i z hu hi hz ⟨g,0,none⟩ n n vs g3 (fun j v hj=>by rw[gy,TJ];exact g5 j v hj) ⟨b,o,none⟩ f.length D k s1 (fun j u hj=>by rw[gy];exact m j u hj) oM oM (growslice_fits oM h)
 have h7:cs.length=n * i.size:=by rw[<-g6.length];exact g3
 refine Dn hr (v':= .slice (some ⟨w.heap.size,0,none⟩) (n+f.length) (grownCap w (n+f.length) n e)) (xs:=vs++k) rfl (w':=w.drew.alloc (.cells (vs.toArray++k.toArray++Builtin.zeroCells z.cells (grownCap w (n+f.length) n e - (n+f.length))) e)) ?_ ?_ ?_ ?_ ?_ ?_ ?_ r3
 ·obtain⟨V,r4⟩:=hR (P:=P) (w:=w) (dst:=some d) (ty:=ty) (S:=S) (U:=U) (gd:=gd) a.eval .append #[L,y'] #[t,t]
  rw[r4]
  simp only[builtin,Sem.run_bind]
  rw[show(#[L,y'].map a.eval)= #[a.eval L,a.eval y'] by simp,s,l,F]
  rfl
 ·exact((Below.refl _ _).drew).alloc (S0 _) _
 ·have:=wS w.drew (e:=e) (sz:=i.size) (n:=n+f.length) (D:=grownCap w (n+f.length) n e) (xs:=vs++k) (p:=Builtin.zeroCells z.cells (grownCap w (n+f.length) n e - (n+f.length))) (by simp[g3,s1,T2]) (grownCap_ge _ _ _ _) (grownCap_le_maxLen _ _ _ _ (by simp only[maxLen];omega)) (by rw[size_zeroCells,H])
  have e3:(vs++k).toArray=vs.toArray++k.toArray:=by simp
  rw[e3] at this
  rw[SW,ir]
  exact this
 ·intro x hx
  rcases Ta.1 hx with hx|hx
  ·exact g4 x hx
  ·exact h2 x hx
 ·intro r r1
  rcases Ta.1 r1 with r1|r1
  ·exact vg _ _ _ h7 r r1
  ·exact R r r1
 ·rw[U4,nP _ _ _ h7]
  exact g6.append h1
 ·intro b hb;simp[yj] at hb;omega
theorem Mc (hr:cH c σ κ φ a w) {t W:Nat} {hi:Operand} {y h:SX} {k:IntKind} {n:Int} (hu:P.underlying t=some (.slice e)) (h5:(P.info? e).isSome=true) (I:P.cellsOf e=sz) (hx:aG c.N x y=true) (hh:aG c.N hi h=true) (M:ev σ.s y= .vec id) (v:ev σ.s h= .d (.int k n)) (hv:σ.h id= .vec W sz rows) (h0:0<=n) (hn:n<=rows.length) (ty:TypeId) (S:String) (U:Array Edge) (gd:Option (Nat×Bool)) (r3:d<c.N):
  kT P c ⟨some d,.slice t x none (some hi) none,ty,S,U,gd⟩ a w (cZ σ d id W sz (rows.take n.toNat)):=by
 have q:=am hr hx
 rw[M] at q
 simp only[ah] at q
 have V:=am hr hh
 rw[v] at V
 simp only[ah,ba] at V
 have r2:=hr.chunks id
 rw[hv] at r2
 obtain⟨xs,G,ho,s,R,r0,K⟩:=r2
 have o:n.toNat<=rows.length:=by omega
 obtain⟨X,D,i,h7,r7,ho'⟩:∃ X D,κ id= .slice X rows.length D/\rows.length<=D/\hP (.slice X n.toNat D)=hP (κ id)/\w.ownsRow 0 W sz (.slice X n.toNat D) n.toNat (xs.take (n.toNat * sz)):=by
  have Y:(xs.take (n.toNat * sz)).length=n.toNat * sz:=by
   rw[Tc,ho.1,U9 (Uw _ o)]
  rcases ho.2 with⟨hk,hz⟩|⟨g,D,B,hk,hB,hg,m,h4,Z,H⟩
  ·refine⟨none,0,by rw[hk,hz],by omega,by rw[hk];rfl,Y,.inl ⟨by congr 1;omega,by omega⟩⟩
  ·refine⟨some ⟨g,0,none⟩,D,hk,m,by rw[hk];rfl,Y,.inr ⟨g,D,B,rfl,hB,hg,by omega,h4,Z, ?_⟩⟩
   rw[<-H,List.take_take,U9 (Uw _ o)]
 have u:=q.trans i
 have w4:=r_ (P:=P) (w:=w) (p:=true) (len:=rows.length) (D:=D) (lo:=none) (hi:=some (a.eval hi)) (l:=none) (h:=some n) (.inl ⟨rfl,rfl⟩) (.inr ⟨k,n,by rw[V],rfl⟩) oS (by simpa using h0) (by simpa using hn) h7
 have F:(execOp a.eval ⟨some d,.slice t x none (some hi) none,ty,S,U,gd⟩).run P w= .ok (.value (.slice X n.toNat D)) w:=by
  simp only[execOp,Instr.sliceAt,Instr.slice,Sem.run_bind,run_underlying hu,Result.andThen_ok,u,UP,TL,w4,dv h5]
  simp
  cases X with
  |none=>simp
  |some A=>simp[Addr.add]
 obtain⟨G',O,z⟩:=r0.take (n.toNat * sz)
 have C:(rows.take n.toNat).flatten=rows.flatten.take (n.toNat * sz):=by
  have E:rows.flatten=(rows.take n.toNat).flatten++(rows.drop n.toNat).flatten:=by rw[<-U4,Tf]
  have hl:(rows.take n.toNat).flatten.length=n.toNat * sz:=by rw[kR (sz:=sz) fun r hr=>R r (Tm hr),Tc,U9 o]
  rw[E,List.take_append_of_le_length oM]
  exact(Tr oM).symm
 have f:(hP (κ id)++G').Sublist (φ id):=by rw[K];exact U2 (Us _) O
 have Q:∀ b∈hP (κ id)++G',(w.heap.size<=b\/b∈φ id)/\b<w.heap.size:=fun b hb=>⟨.inr (f.subset hb),(hr.mine id b (f.subset hb)).1⟩
 have N:=uH hr (id:=id) (S0 _) (fun b _ _=>rfl) Q
 have j:cH c (σ.swap id .any (.vec W sz (jG id .any (rows.take n.toNat)))) (aD κ id (.slice X n.toNat D)) (aD φ id (hP (κ id)++G')) a w:=by
  refine hr.swap rfl rfl rfl rfl (S0 _) (fun b _ _=>rfl) Q ((hr.nod id).sublist f) (by unfold ba;trivial) ?_
  refine⟨xs.take (n.toNat * sz),G', ?_,fun x hx=>s x (Tm hx),uF _ _ _ _ fun r hr=>R r (Tm hr), ?_,by rw[au,r7]⟩
  ·rw[au,kS,Tc,U9 o];exact ho'
  ·rw[lE,C]
   exact zV N (by unfold ba;trivial) _ _ _ (fun _ _=>rfl) z
 refine⟨.value (.slice X n.toNat D),w,_,_,F,.inl ⟨_,rfl,j.putS (dst:=d) r3 (by simp only[ah,au])⟩⟩
theorem Md (hr:cH c σ κ φ a w) (kk:KK) (ty:TypeId) (S:String) (U:Array Edge) (gd:Option (Nat×Bool)) (r3:d<c.N):
  kT P c ⟨some d,.makeMap t none,ty,S,U,gd⟩ a w {σ.swap d .any (.map kk []) with s:=aD (eC d .any σ.s) d (.mp d)}:=by
 have hB:Below w.heap.size w (w.alloc (.map #[] 0)):=(Below.refl _ _).alloc (S0 _) _
 have Q:∀ b∈[w.heap.size],(w.heap.size<=b\/b∈φ d)/\b<(w.alloc (.map #[] 0)).heap.size:=fun b hb=>by
  simp at hb;subst hb;exact⟨.inl (S0 _),by simp⟩
 have j:cH c (σ.swap d .any (.map kk [])) (aD κ d (.map (some w.heap.size))) (aD φ d [w.heap.size]) a (w.alloc (.map #[] 0)):=by
  refine hr.swap rfl rfl rfl rfl hB.size (fun b hb _=>hB.block b hb) Q oS (by unfold ba;trivial) ?_
  exact⟨w.heap.size,[],0,[],by rw[au],heap_alloc_new w _,⟨(fun _ J=>nomatch J),List.nodup_nil⟩,by unfold bH;exact⟨rfl,rfl⟩,rfl⟩
 refine⟨.value (.map (some w.heap.size)),w.alloc (.map #[] 0),aD κ d (.map (some w.heap.size)),aD φ d [w.heap.size], ?_,.inl ⟨.map (some w.heap.size),rfl, ?_⟩⟩
 ·simp only[execOp,Instr.makeMap,newObj,Sem.run_bind,Sem.run,Result.andThen_ok,Sem.run_pure,UP]
  rfl
 ·exact j.putS (dst:=d) r3 (by simp only[ah,au])
theorem Gq {x:DV} (hf:kk.fits x=true) (hk:dq x=some v) (n:Nat):Instr.sameBits n v v=true:=by
 cases kk<;>cases x<;>simp[KK.fits] at hf<;>simp[dq] at hk<;>subst hk<;>simp[Instr.sameBits,AY]
theorem KT {k:Value} (h:Gd es C):Gd (es++[{key:=k,val:=v,born:=C}]) (C+1):=by
 refine⟨fun e J=> ?_, ?_⟩
 ·rcases Ta.1 J with J|J
  ·have:=h.1 e J;omega
  ·simp only[Td] at J;subst J;exact Nat.lt_succ_self _
 ·rw[UR,TC]
  refine⟨h.2,by simp,fun a ha b hb=> ?_⟩
  obtain⟨e,J,rfl⟩:=Tu.1 ha
  simp only[S5,Ui,Td] at hb
  subst hb
  have:=h.1 e J
  omega
theorem Hz {j:Nat} {k:Value} (h:Gd es C):Gd (es.modify j fun e=>{e with key:=k,val:=v}) C:=by
 have Z:(es.modify j fun e=>{e with key:=k,val:=v}).map (·.born)=es.map (·.born):=by
  apply List.ext_getElem?
  intro i
  simp only[Tk,List.getElem?_modify]
  by_cases V:j=i
  ·subst V;cases es[j]?<;>simp
  ·simp[V]
 refine⟨fun e J=> ?_,by rw[Z];exact h.2⟩
 have h1:e.born∈es.map (·.born):=by rw[<-Z];exact List.mem_map_of_mem J
 obtain⟨W,y,h2⟩:=Tu.1 h1
 have:=h.1 W y
 omega
theorem Oi (hr:cH c σ κ φ a w) {kt e:TypeId} {z:Operand} {m k v:SX} {kv:List (DV×SV)} {L:DV} (h1:aG c.N x m=true) (h2:aG c.N y k=true) (E:aG c.N z v=true) (Y:P.underlying t=some (.map kt e)) (hk:EJ P kt=some kk) (Z:ev σ.s m= .mp id) (h:ev σ.s k= .d L) (hh:σ.h id= .map kk kv) (hf:kk.fits L=true) (ty:TypeId) (S:String) (U:Array Edge) (gd:Option (Nat×Bool)):
  kT P c ⟨none,.mapUpdate t x y z,ty,S,U,gd⟩ a w ⟨σ.s,aD σ.h id (.map kk (nR kv L (ev σ.s v)))⟩:=by
 have hx:=am hr h1
 have hy:=am hr h2
 have hz:=am hr E
 rw[Z] at hx
 rw[h] at hy
 simp only[ah] at hx
 have r2:=hr.chunks id
 rw[hh] at r2
 obtain⟨r,es,C,G,M,u,d,s4,K⟩:=r2
 have Q:=hx.trans M
 have i:=uE hk
 have f:=Ff hf hy.d
 have p:∀ b,(Instr.checkKey b 10000 kt (a.eval y)).run P w= .ok () w:=fun b=>rZ i _ 9999
 have I:(getObj r).run P w= .ok (.map es.toArray C) w:=by simp[getObj,Sem.run,u]
 have g:∀ o,(setObj r o).run P w= .ok () {w with heap:=w.heap.setIfInBounds r o}:=fun o=>by simp[setObj,Sem.run,u]
 have F:r<w.heap.size:=(Ty.1 u).1
 have B:∀ (n:List MapEntry) (J:Nat) (G':List Nat),G'.Sublist G->Gd n J->bH w (own c φ) κ kk (nR kv L (ev σ.s v)) n G'->
   cH c ⟨σ.s,aD σ.h id (.map kk (nR kv L (ev σ.s v)))⟩ κ (aD φ id (r::G')) a {w with heap:=w.heap.setIfInBounds r (.map n.toArray J)}:=fun n J G' O T D=>by
  have A:∀ b,b≠r->({w with heap:=w.heap.setIfInBounds r (.map n.toArray J)}:World).heap[b]?=w.heap[b]?:=fun b hb=>by
   simp[Array.getElem?_setIfInBounds_ne (Ne.symm hb)]
  refine hr.modify rfl rfl rfl oS (fun b hb=>A b fun e=>hb (by rw[K,e];simp)) (by rw[K];exact O.cons_cons r) fun N=> ?_
  refine⟨r,n,J,G',M,by simp[F],T,bH.ext N _ _ _ (fun b hb=>A b fun e=> ?_) D,rfl⟩
  have:=hr.nod id
  rw[K] at this
  exact(UQ.1 this).1 (by rw[<-e];exact O.subset hb)
 cases hg:oR kv L with
 |none=>
  have l:=wP (P:=P) (w:=w) i (AZ hf f 0 s4 hg)
  refine⟨.skip,_,κ,aD φ id (r::G), ?_,.inr ⟨rfl,B (es++[{key:=a.eval y,val:=a.eval z,born:=C}]) (C+1) G (Us _) (KT d) ?_⟩⟩
  ·simp only[execOp,Instr.mapUpdate,Sem.run_bind,run_underlying Y,Result.andThen_ok,Q,I,p,l,g,Sem.run_pure]
   simp
  ·simpa using Hr (b:=C) hf f s4 hg (ev σ.s v) (a.eval z) [] (aQ.of_S _ _ hz)
 |some d'=>
  obtain⟨j,W,q,R,s,g1,g2,V,g3,g4,g5⟩:=A0 hf f 0 s4 hg
  have l:=wP (P:=P) (w:=w) i g2
  have H:(Instr.keyThatStays W.key (a.eval y)).run P w= .ok (a.eval y) w:=by
   rw[g4]
   simp[Instr.keyThatStays,Gq hf f]
  refine⟨.skip,_,κ,aD φ id (r::(q++[]++s)), ?_,.inr ⟨rfl,B (es.modify j fun e=>{e with key:=a.eval y,val:=a.eval z}) C (q++[]++s) ?_ (Hz d) (g5 _ _ [] (aQ.of_S _ _ hz))⟩⟩
  ·simp only[TJ] at l
   simp only[execOp,Instr.mapUpdate,Sem.run_bind,run_underlying Y,Result.andThen_ok,Q,I,p,l,List.getElem?_toArray,g1,TL,TI,H,g,Sem.run_pure,List.modify_toArray]
  ·rw[V]
   exact U2 (U2 (Us _) (List.nil_sublist _)) (Us _)
end
