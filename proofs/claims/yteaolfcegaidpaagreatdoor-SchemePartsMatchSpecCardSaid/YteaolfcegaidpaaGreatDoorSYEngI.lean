/-
  My text.
-/
import Derived.Test.YteaolfcegaidpaaGreatDoorSYEngH
import Derived.Lib.AppendStr
import Derived.Laws.MakeOwn
namespace Go.Proofs.YteaolfcegaidpaaGreatDoor
set_option linter.unusedSimpArgs false
set_option linter.unusedVariables false
open Go.RowKit
inductive IV where
 |boxM (x:SX)
 |st (n:Nat) (p v:SX)
 |app (e sz:Nat) (x y:SX)
 |appS (e:Nat) (x y:SX)
 |mkmap (kk:KK)
 |mset (kk:KK) (m k v:SX)
 |trunc (sz:Nat) (x hi:SX)
 |slM (e sz:Nat) (xs:List SX)
 |mkS (e sz:Nat) (z:SV) (x y:SX)
 |bldM (T e:Nat)
def splice {α:Type} (cs:List α) (off:Nat) (vs:List α):List α:=cs.take off++vs++cs.drop (off+vs.length)
def c6 (σ:St) (dst id e sz:Nat) (rows:List (List SV)):St:=
 {σ.swap id .any (.vec e sz (rx id .any rows)) with s:=aH (gn id .any σ.s) dst (.vec id)}
def dR (r:List DV):List SV:=r.map .d
def x_:SV->Option (List (List SV))
 | .lit sz n cs=>some (fC sz n cs)
 |x=>match x.toDV with|some (.slice rows)=>some (rows.map dR)|_=>none
def wr (σ:St) (dst:Nat):IV->Option (Prop×St)
 | .boxM x=>match(ev σ.s x).cells? with
  |some cs=>some (True,{σ.swap dst .any (.box (fk dst .any cs)) with s:=aH (gn dst .any σ.s) dst (.ref dst 0)})
  |none=>none
 | .st n p v=>match ev σ.s p with
  | .ref id off=>match σ.h id,(ev σ.s v).cells? with
   | .box cs,some vs=>some (vs.length=n/\off+n<=cs.length,⟨σ.s,aH σ.h id (.box (splice cs off vs))⟩)
   |_,_=>none
  | .vref id sz i off=>match σ.h id,(ev σ.s v).cells? with
   | .vec e sz' rows,some vs=>match rows[i]? with
    |some r=>some (sz'=sz/\vs.length=n/\off+n<=r.length,⟨σ.s,aH σ.h id (.vec e sz' (rows.set i (splice r off vs)))⟩)
    |none=>none
   |_,_=>none
  |_=>none
 | .app e sz x y=>match ev σ.s x,x_ (ev σ.s y) with
  | .vec id,some rows2=>match σ.h id with
   | .vec e' sz' rows=>some (e'=e/\sz'=sz/\(∀ r∈rows2,r.length=sz)/\rows.length+rows2.length<=137438953472,c6 σ dst id e sz (rows++rows2))
   |_=>none
  | .nils,some rows2=>some ((∀ r∈rows2,r.length=sz)/\rows2.length<=137438953472,c6 σ dst dst e sz rows2)
  | .lit sz' n cs,some rows2=>some (sz'=sz/\0<rows2.length/\(∀ r∈rows2,r.length=sz)/\n+rows2.length<=137438953472,c6 σ dst dst e sz (fC sz n cs++rows2))
  |_,_=>none
 | .appS e x y=>match ev σ.s x,ev σ.s y with
  | .vec id,.d (.str l)=>match σ.h id with
   | .vec e' sz' rows=>some (e'=e/\sz'=1/\rows.length+l.length<=137438953472,c6 σ dst id e 1 (rows++l.map fun b=>[.d (.int .u8 b.toNat)]))
   |_=>none
  | .nils,.d (.str l)=>some (l.length<=137438953472,c6 σ dst dst e 1 (l.map fun b=>[.d (.int .u8 b.toNat)]))
  |_,_=>none
 | .mkmap kk=>some (True,{σ.swap dst .any (.map kk []) with s:=aH (gn dst .any σ.s) dst (.mp dst)})
 | .mset kk m k v=>match ev σ.s m,ev σ.s k with
  | .mp id,.d x=>match σ.h id with
   | .map kk' kv=>some (kk'=kk/\kk.fits x=true,⟨σ.s,aH σ.h id (.map kk (no kv x (ev σ.s v)))⟩)
   |_=>none
  |_,_=>none
 | .trunc sz x hi=>match ev σ.s x,ev σ.s hi with
  | .vec id,.d (.int _ n)=>match σ.h id with
   | .vec e sz' rows=>some (sz'=sz/\0<=n/\n<=rows.length,c6 σ dst id e sz (rows.take n.toNat))
   |_=>none
  |_,_=>none
 | .slM e sz xs=>match kr sz (xs.map (ev σ.s)) with
  |some cs=>some (True,c6 σ dst dst e sz (fC sz xs.length cs))
  |none=>none
 | .mkS e sz z x y=>match z.cells?,ev σ.s x,ev σ.s y with
  |some cs,.d (.int _ n),.d (.int _ m)=>some (cs.length=sz/\0<=n/\n<=m/\m<=137438953472,c6 σ dst dst e sz (List.replicate n.toNat cs))
  |_,_,_=>none
 | .bldM T e=>some (True,{σ.swap dst .any (.bld T e []) with s:=aH (gn dst .any σ.s) dst (.ref dst 0)})
def mh (P:Program) (N:Nat) (op:Op) (dst:Option Tmp) (d:Nat):IV->Bool
 | .boxM y=>dst==some d&&decide (d<N)&&(match op with
  | .box _ x=>aA N x y
  | .alloc t=>EE P t y
  |_=>false)
 | .st n p v=>dst==none&&(match op with
  | .store t x y=>aA N x p&&aA N y v&&(P.info? t).isSome&&P.cellsOf t==n
  |_=>false)
 | .app e sz x y=>dst==some d&&decide (d<N)&&(match op with
  | .call {callee:= .builtin .append,args,argTypes}=>(match args.toList,argTypes.toList with
   |[x',y'],[t,t']=>aA N x' x&&aA N y' y&&t==t'&&(match P.underlying t with
    |some (.slice e')=>e'==e&&(match P.info? e with|some i=>i.size==sz&&decide (0<sz)&&decide (i.bytes<=1024)&&(match i.zero with|some z=>z.cells.size==sz|none=>false)|none=>false)
    |_=>false)
   |_,_=>false)
  |_=>false)
 | .appS e x y=>dst==some d&&decide (d<N)&&(match op with
  | .call {callee:= .builtin .append,args,argTypes}=>(match args.toList,argTypes.toList with
   |[x',y'],[t,t']=>aA N x' x&&aA N y' y&&(match P.underlying t' with|some .string=>true|_=>false)&&(match P.underlying t with
    |some (.slice e')=>e'==e&&(match P.info? e with|some i=>i.size==1&&i.bytes==1&&(match i.zero with|some (.int .u8 0)=>true|_=>false)|none=>false)
    |_=>false)
   |_,_=>false)
  |_=>false)
 | .mkmap kk=>dst==some d&&decide (d<N)&&(match op with
  | .makeMap t none=>(match P.underlying t with|some (.map kt _)=>Cr P kt==some kk|_=>false)
  |_=>false)
 | .mset kk m k v=>dst==none&&(match op with
  | .mapUpdate t x y z=>aA N x m&&aA N y k&&aA N z v&&(match P.underlying t with|some (.map kt _)=>Cr P kt==some kk|_=>false)
  |_=>false)
 | .trunc sz y h=>dst==some d&&decide (d<N)&&(match op with
  | .slice t x none (some hi) none=>aA N x y&&aA N hi h&&(match P.underlying t with|some (.slice e)=>(P.info? e).isSome&&P.cellsOf e==sz&&decide (0<sz)|_=>false)
  |_=>false)
 | .slM e sz xs=>dst==some d&&decide (d<N)&&(match op with
  | .buildSlice t n parts=>n==parts.size&&om N 0 parts.toList xs&&(match P.underlying t with
   |some (.slice e')=>e'==e&&(match P.info? e' with|some i=>i.size==sz&&decide (0<sz)&&decide (n * sz<=16777216)&&(match i.zero with|some z=>z.cells.size==sz|none=>false)|none=>false)
   |_=>false)
  |_=>false)
 | .mkS e sz z x y=>dst==some d&&decide (d<N)&&(match op with
  | .makeSlice t l cp=>aA N l x&&aA N cp y&&(match P.underlying t with
   |some (.slice e')=>e'==e&&(match P.info? e' with|some i=>i.size==sz&&decide (0<sz)&&decide (i.bytes<=1024)&&(match i.zero with|some v=>v.cells.size==sz&&qf v z|none=>false)|none=>false)
   |_=>false)
  |_=>false)
 | .bldM T _=>dst==some d&&decide (d<N)&&(match op with
  | .alloc t=>t==T&&(match P.info? t with|some i=>(match i.zero with|some z=>(match z.cells.toList with|[.pointer none,.slice none 0 0]=>true|_=>false)|none=>false)|none=>false)
  |_=>false)
section
variable {P:Program} {c:Cx} {σ:St} {κ:Nat->Value} {φ:Nat->List Nat} {a:Act} {w:World}
theorem Mr {M:Nat->Prop} {cs:List DV} {vs:List Value} (h:aI w M cs vs):ai w M κ (dR cs) vs:=ai.of_d h
theorem Gc (rows:List (List DV)):(rows.map dR).flatten=dR rows.flatten:=by
 induction rows with
 |nil=>rfl
 |cons r rows ih=>simp[dR] at ih⊢;exact ih
theorem Bj {us ws:List Value} {off:Nat} (h:∀ x∈us,x.oneCell'=true) (k:∀ x∈ws,x.oneCell'=true):∀ x∈us.take off++ws++us.drop (off+ws.length),x.oneCell'=true:=by
 intro x hx
 simp only[OV] at hx
 rcases hx with(hx|hx)|hx
 ·exact h x (O0 hx)
 ·exact k x hx
 ·exact h x (Pg hx)
theorem uC {sz:Nat}:∀ (rows:List (List SV)) (i off:Nat) (r vs:List SV),(∀ q∈rows,q.length=sz)->rows[i]?=some r->off+vs.length<=r.length->
  (rows.set i (splice r off vs)).flatten=splice rows.flatten (i * sz+off) vs
 |[],i,off,r,vs,_,h,_=>by simp at h
 |q::rows,0,off,r,vs,hall,h,hle=>by
  simp at h;subst h
  simp only[List.set_cons_zero,O_,Nat.zero_mul,Ps,splice]
  rw[List.take_append_of_le_length oM,List.drop_append_of_le_length oM]
  simp
 |q::rows,i+1,off,r,vs,hall,h,hle=>by
  have hq:=hall q oS
  have ih:=uC (sz:=sz) rows i off r vs (fun q hq=>hall q (by simp[hq])) (by simpa using h) hle
  simp only[List.set_cons_succ,O_]
  rw[ih]
  unfold splice
  rw[show(i+1) * sz+off=q.length+(i * sz+off) by rw[PD];omega]
  rw[List.take_length_add_append,show q.length+(i * sz+off)+vs.length=q.length+(i * sz+off+vs.length) by omega,List.drop_length_add_append]
  simp
theorem yb (w:World) (g:Nat) (cs:Array Value):(w.setRow g cs).os=w.os/\(w.setRow g cs).tape=w.tape/\(w.setRow g cs).output=w.output/\(w.setRow g cs).heap.size=w.heap.size/\∀ b,b≠g->(w.setRow g cs).heap[b]?=w.heap[b]?:=
 ⟨rfl,rfl,rfl,by simp[World.setRow],fun b hb=>setRow_other w g b cs hb⟩
theorem Jb {t:TypeId} {x y:Operand} {b o n:Nat} {vs:List Value} {cur:Array Value} {T:TypeId} (hi:(P.info? t).isSome=true) (hn:P.cellsOf t=n) (hx:a.eval x= .pointer (some ⟨b,o,none⟩)) (hv:(a.eval y).cells=vs.toArray) (hl:vs.length=n)
  (hone:∀ x∈vs,x.oneCell'=true) (hb:w.heap[b]?=some (.cells cur T (0,0))) (hle:o+vs.length<=cur.size) (dst:Option Tmp) (ty:TypeId) (pos:String) (aft:Array Edge) (gd:Option (Nat×Bool)):
  (execOp a.eval ⟨dst,.store t x y,ty,pos,aft,gd⟩).run P w= .ok .skip (w.setRow b (cur.toList.take o++vs++cur.toList.drop (o+vs.length)).toArray):=by
 have hs:=run_storeCells_at P b o T vs 0 cur w hb (by simpa using hle) hone
 simp only[Qb] at hs
 have hns:¬ (vs.toArray.size≠P.cellsOf t):=by simp;omega
 simp only[execOp,Instr.storeAt,Instr.sureAddr,hx,Sem.run_bind,Sem.run_pure,Result.andThen_ok,storeVar,dH hi,hv]
 rw[P7 hns]
 simp only[hs,Sem.run_bind,Result.andThen_ok,Sem.run_pure]
def ku (P:Program) (c:Cx) (o:Oper) (a:Act) (w:World) (σ':St):Prop:=
 ∃ v w' κ' φ',(execOp a.eval o).run P w= .ok v w'/\((∃ u,v= .value u/\cE c σ' κ' φ' (a.put o.dst u) w')\/(v= .skip/\cE c σ' κ' φ' (a.put o.dst undef) w'))
theorem wg (hr:cE c σ κ φ a w) {id b:Nat} (hb:b∈φ id):¬ c.M0 b:=fun h=>by
 have h1:=hr.m0 b h
 rcases(hr.mine id b hb).2 with h2|h2
 ·omega
 ·exact h1.2 h2
theorem Jc (hr:cE c σ κ φ a w) {T:TypeId} {o:Oper} {d:Nat} {cs:List SV} {vs:List Value} (hd:o.dst=some d) (h2:∀ u∈vs,u.oneCell'=true) (h3:ai w (own c φ) κ cs vs)
  (hrun:(execOp a.eval o).run P w= .ok (.value (.pointer (some ⟨w.heap.size,0,none⟩))) (w.alloc (.cells vs.toArray T))) (hd':d<c.N):
  ku P c o a w {σ.swap d .any (.box (fk d .any cs)) with s:=aH (gn d .any σ.s) d (.ref d 0)}:=by
 have hB:Below w.heap.size w (w.alloc (.cells vs.toArray T)):=(Below.refl _ _).alloc (OH _) _
 have hF:∀ b∈[w.heap.size],(w.heap.size<=b\/b∈φ d)/\b<(w.alloc (.cells vs.toArray T)).heap.size:=fun b hb=>by
  simp at hb;subst hb;exact⟨.inl (OH _),by simp⟩
 have hext:=sG hr (id:=d) hB.size (fun b hb _=>hB.block b hb) hF
 have href:cE c (σ.swap d .any (.box (fk d .any cs))) (aH κ d (.pointer (some ⟨w.heap.size,0,none⟩))) (aH φ d [w.heap.size]) a (w.alloc (.cells vs.toArray T)):=by
  refine hr.swap rfl rfl rfl rfl hB.size (fun b hb _=>hB.block b hb) hF oS (by unfold aQ;trivial) ?_
  exact⟨w.heap.size,T,vs,[],by rw[an],heap_alloc_new w _,h2,am.of_S _ _ (sF hext (by unfold aQ;trivial) cs vs h3),rfl⟩
 refine⟨.value (.pointer (some ⟨w.heap.size,0,none⟩)),w.alloc (.cells vs.toArray T),aH κ d (.pointer (some ⟨w.heap.size,0,none⟩)),aH φ d [w.heap.size],hrun,.inl ⟨.pointer (some ⟨w.heap.size,0,none⟩),rfl, ?_⟩⟩
 rw[hd]
 exact href.putS (dst:=d) hd' (by simp only[ae];exact⟨w.heap.size,by rw[an],rfl⟩)
theorem Ms (hr:cE c σ κ φ a w) {T e:Nat} {i:TypeInfo} {z:Value} {d:Nat} (hi:P.info? T=some i) (hz:i.zero=some z) (hc:z.cells.toList=[.pointer none,.slice none 0 0]) (ty:TypeId) (pos:String) (aft:Array Edge) (gd:Option (Nat×Bool)) (hd':d<c.N):
  ku P c ⟨some d,.alloc T,ty,pos,aft,gd⟩ a w {σ.swap d .any (.bld T e []) with s:=aH (gn d .any σ.s) d (.ref d 0)}:=by
 have hc':z.cells=[.pointer none,.slice none 0 0].toArray:=by rw[<-hc,Array.toArray_toList]
 have hrun:=y3 (P:=P) (a:=a) (w:=w) hi hz hc' (dst:=some d) (ty:=ty) (pos:=pos) (aft:=aft) (gd:=gd)
 have hB:Below w.heap.size w (w.alloc (.cells [.pointer none,.slice none 0 0].toArray T)):=(Below.refl _ _).alloc (OH _) _
 have hF:∀ b∈[w.heap.size],(w.heap.size<=b\/b∈φ d)/\b<(w.alloc (.cells [.pointer none,.slice none 0 0].toArray T)).heap.size:=fun b hb=>by
  simp at hb;subst hb;exact⟨.inl (OH _),by simp⟩
 have href:cE c (σ.swap d .any (.bld T e [])) (aH κ d (.pointer (some ⟨w.heap.size,0,none⟩))) (aH φ d [w.heap.size]) a (w.alloc (.cells [.pointer none,.slice none 0 0].toArray T)):=by
  refine hr.swap rfl rfl rfl rfl hB.size (fun b hb _=>hB.block b hb) hF oS (by unfold aQ;trivial) ?_
  exact⟨w.heap.size,.pointer none,.slice none 0 0,by rw[an],heap_alloc_new w _,.inl rfl,World.ownsRowF_nil _ _ _ _,rfl⟩
 refine⟨.value (.pointer (some ⟨w.heap.size,0,none⟩)),w.alloc (.cells [.pointer none,.slice none 0 0].toArray T),aH κ d (.pointer (some ⟨w.heap.size,0,none⟩)),aH φ d [w.heap.size],hrun,.inl ⟨.pointer (some ⟨w.heap.size,0,none⟩),rfl, ?_⟩⟩
 exact href.putS (dst:=d) hd' (by simp only[ae];exact⟨w.heap.size,by rw[an],rfl⟩)
theorem Mt (hr:cE c σ κ φ a w) {T:TypeId} {x:Operand} {y:SX} {d:Nat} {cs:List SV} (hm:aA c.N x y=true) (hc:(ev σ.s y).cells?=some cs) (ty:TypeId) (pos:String) (aft:Array Edge) (gd:Option (Nat×Bool)) (hd':d<c.N):
  ku P c ⟨some d,.box T x,ty,pos,aft,gd⟩ a w {σ.swap d .any (.box (fk d .any cs)) with s:=aH (gn d .any σ.s) d (.ref d 0)}:=by
 obtain⟨vs,h1,h2,h3⟩:=(ag hr hm).cells hr.kok hc
 refine Jc hr rfl h2 h3 (T:=T) ?_ hd'
 simp only[execOp,Instr.box,newVar,newRow,newObj,h1,Sem.run_bind,Sem.run,Result.andThen_ok,Sem.run_pure]
 rfl
theorem Jd (hr:cE c σ κ φ a w) {t:TypeId} {i:TypeInfo} {z:Value} {v:SV} {d:Nat} {cs:List SV} (hi:P.info? t=some i) (hz:i.zero=some z) (hv:qf z v=true) (hc:v.cells?=some cs) (ty:TypeId) (pos:String) (aft:Array Edge) (gd:Option (Nat×Bool)) (hd':d<c.N):
  ku P c ⟨some d,.alloc t,ty,pos,aft,gd⟩ a w {σ.swap d .any (.box (fk d .any cs)) with s:=aH (gn d .any σ.s) d (.ref d 0)}:=by
 obtain⟨vs,h1,h2,h3⟩:=(pa (w:=w) (M:=own c φ) (κ:=κ) hv).cells hr.kok hc
 exact Jc hr rfl h2 h3 (y3 hi hz h1) hd'
theorem HO (hr:cE c σ κ φ a w) {t:TypeId} {x y:Operand} {p v:SX} {n id off:Nat} {cs vs:List SV} (h1:aA c.N x p=true) (h2:aA c.N y v=true) (hi:(P.info? t).isSome=true) (hn:P.cellsOf t=n)
  (hp:ev σ.s p= .ref id off) (hh:σ.h id= .box cs) (hv:(ev σ.s v).cells?=some vs) (hl:vs.length=n) (hle:off+n<=cs.length) (ty:TypeId) (pos:String) (aft:Array Edge) (gd:Option (Nat×Bool)):
  ku P c ⟨none,.store t x y,ty,pos,aft,gd⟩ a w ⟨σ.s,aH σ.h id (.box (splice cs off vs))⟩:=by
 have hx:=ag hr h1
 rw[hp] at hx
 simp only[ae] at hx
 obtain⟨b,hkb,hx⟩:=hx
 obtain⟨us,hu1,hu2,hu3⟩:=(ag hr h2).cells hr.kok hv
 have hch:=hr.chunks id
 rw[hh] at hch
 obtain⟨b',T,ws,G,hk',hheap,hone,hrep,hφ⟩:=hch
 rw[hkb] at hk';simp at hk';subst hk'
 have hul:=hu3.length
 have hwl:=hrep.length
 have hrun:=Jb (P:=P) (a:=a) hi hn hx hu1 oM hu2 hheap oT none ty pos aft gd
 simp only at hrun
 obtain⟨f1,f2,f3,f4,f5⟩:=yb w b (ws.take off++us++ws.drop (off+us.length)).toArray
 obtain⟨G',hG',hrep'⟩:=hrep.splice hu3 off
 refine⟨.skip,_,κ,aH φ id (b::G'),hrun,.inr ⟨rfl, ?_⟩⟩
 refine hr.modify (F':=b::G') f1 f2 f3 f4 (fun b' hb'=>f5 b' fun e=>hb' (by rw[hφ,e];simp)) (by rw[hφ];exact hG'.cons_cons b) fun hext=> ?_
 refine⟨b,T,_,G',hkb,setRow_heap w b _ _ T _ hheap,Bj hone hu2,am.ext hext _ _ _ (fun b' hb'=>f5 b' fun e=> ?_) hrep',rfl⟩
 have:=hr.nod id
 rw[hφ] at this
 exact(Qo.1 this).1 (by rw[<-e];exact hG'.subset hb')
theorem EP {M:Nat->Prop} {rows:List (List SV)} {sz i off:Nat} {r vs:List SV} {xs us:List Value} {G:List Nat} (hall:∀ r∈rows,r.length=sz) (h:am w M κ rows.flatten xs G) (k:ai w M κ vs us) (hrow:rows[i]?=some r) (hle:off+vs.length<=r.length):
  ∃ G',G'.Sublist G/\am w M κ (rows.set i (splice r off vs)).flatten (xs.take (i * sz+off)++us++xs.drop (i * sz+off+us.length)) G':=by
 rw[uC (sz:=sz) rows i off r vs hall hrow hle]
 exact h.splice k _
theorem HP (hr:cE c σ κ φ a w) {t:TypeId} {x y:Operand} {p v:SX} {n id sz i off e:Nat} {rows:List (List SV)} {r vs:List SV} (h1:aA c.N x p=true) (h2:aA c.N y v=true) (hi:(P.info? t).isSome=true) (hn:P.cellsOf t=n)
  (hp:ev σ.s p= .vref id sz i off) (hh:σ.h id= .vec e sz rows) (hv:(ev σ.s v).cells?=some vs) (hrow:rows[i]?=some r) (hl:vs.length=n) (hle:off+n<=r.length) (ty:TypeId) (pos:String) (aft:Array Edge) (gd:Option (Nat×Bool)):
  ku P c ⟨none,.store t x y,ty,pos,aft,gd⟩ a w ⟨σ.s,aH σ.h id (.vec e sz (rows.set i (splice r off vs)))⟩:=by
 have hx:=ag hr h1
 rw[hp] at hx
 simp only[ae] at hx
 obtain⟨b,len,cap,hkb,hx⟩:=hx
 obtain⟨us,hu1,hu2,hu3⟩:=(ag hr h2).cells hr.kok hv
 have hch:=hr.chunks id
 rw[hh] at hch
 obtain⟨xs,G,ho,hone,hall,hrep,hφ⟩:=hch
 have hul:=hu3.length
 have hxl:=hrep.length
 have hrl:=hall r (OE hrow)
 have hi':i<rows.length:=(OG.1 hrow).1
 rcases ho.2 with⟨hk0,hn0⟩|⟨g,cap',cur,hkg,hB,hheap,hcap,hmax,hcur,htake⟩
 ·omega
 ·rw[hkb] at hkg;simp at hkg
  obtain⟨rfl,rfl,rfl⟩:=hkg
  have hbl:kh (κ id)=[b]:=by rw[hkb];rfl
  rw[hbl] at hφ
  have hxs:=ho.1
  have hfit:i * sz+off+us.length<=rows.length * sz:=by
   have h1:(i+1) * sz<=rows.length * sz:=P5 _ hi'
   rw[PD] at h1;omega
  have hcapsz:rows.length * sz<=cap * sz:=P5 _ hcap
  have hrun:=Jb (P:=P) (a:=a) hi hn hx hu1 oM hu2 hheap oM none ty pos aft gd
  obtain⟨f1,f2,f3,f4,f5⟩:=yb w b (cur.toList.take (i * sz+off)++us++cur.toList.drop (i * sz+off+us.length)).toArray
  obtain⟨G',hG',hrep'⟩:=EP (off:=off) hall hrep hu3 hrow oM
  refine⟨.skip,_,κ,aH φ id (b::G'),hrun,.inr ⟨rfl, ?_⟩⟩
  refine hr.modify (F':=b::G') f1 f2 f3 f4 (fun b' hb'=>f5 b' fun e=>hb' (by rw[hφ,e];simp)) (by rw[hφ];exact hG'.cons_cons b) fun hext=> ?_
  refine⟨xs.take (i * sz+off)++us++xs.drop (i * sz+off+us.length),G',⟨?_,.inr ⟨b,cap,_,by rw[hkb];simp,hB,setRow_heap w b _ _ e _ hheap,by simpa using hcap,hmax, ?_, ?_⟩⟩,Bj hone hu2, ?_, ?_,by rw[hbl];rfl⟩
  ·simp;omega
  ·simp;omega
  ·simp only[List.length_set]
   rw[<-htake,List.take_take,List.drop_take]
   rw[show min (i * sz+off) (rows.length * sz)=i * sz+off by omega]
   rw[OK,List.take_append,List.take_append]
   simp only[OT,Qw]
   rw[O8 (l:=List.take (i * sz+off) cur.toList) oT]
   rw[show min (i * sz+off) cur.size=i * sz+off by omega]
   rw[O8 (l:=us) oM]
   simp only[OK]
   congr 3
   omega
  ·intro q hq
   rcases List.mem_or_eq_of_mem_set hq with h|h
   ·exact hall q h
   ·subst h;simp[splice];omega
  ·refine am.ext hext _ _ _ (fun b' hb'=>f5 b' fun e=> ?_) hrep'
   have:=hr.nod id
   rw[hφ] at this
   exact(Qo.1 this).1 (by rw[<-e];exact hG'.subset hb')
theorem tj (v:Value) (h:∀ x,v≠ .pointer x) (h':∀ x,v≠ .map x):wX v=v.ownBlock:=by
 cases v with
 |slice x n c=>cases x<;>rfl
 |pointer x=>exact absurd rfl (h x)
 |map x=>exact absurd rfl (h' x)
 |_=>rfl
theorem DT (w:World) {t ty e:TypeId} {i:TypeInfo} {z:Value} (ht:P.underlying t=some (.slice e)) (hi:P.info? e=some i) (hz:i.zero=some z) {v:Value} {n:Nat} {xs:List Value} (hown:w.ownsRow 0 e i.size v n xs)
  {ad:Addr} {m c:Nat} {news:List Value} (hl:news.length=m * i.size) (hnews:∀ j u,news[j]?=some u->w.cell? (ad.add j)=some u) (h1:∀ u∈news,u.oneCell'=true) (hm:0<m)
  (h63:n+m<=137438953472) (hbytes:(n+m) * i.bytes<=140737488355328) {v':Value} {w':World} (hrun:(Builtin.append_ #[t,t] ty #[v,.slice (some ad) m c]).run P w= .ok v' w'):
  ∀ b,wX v'=some b->w.heap.size<=b\/wX v=some b:=by
 intro b hb
 rcases hown.2 with⟨rfl,rfl⟩|⟨g,cap,cur,rfl,hbg,hg,hnc,hcm,hcs,htake⟩
 ·rw[Ps] at hbytes
  have:=run_append_nil (P:=P) w t ty e i z ht hi hz ad m c news hl hnews hm oM oM
  rw[this] at hrun
  simp only[Result.ok.injEq] at hrun
  rw[<-hrun.1] at hb
  simp[wX] at hb
  exact .inl oM
 ·by_cases hroom:n+m<=cap
  ·have hfit:n * i.size+news.length<=cur.size:=by rw[hl,hcs,<-PD];exact P5 _ hroom
   have:=run_append_room (P:=P) w t ty e i ht hi g n cap cur hg ad m c news hl hnews h1 hroom hfit
   rw[this] at hrun
   simp only[Result.ok.injEq] at hrun
   rw[<-hrun.1] at hb
   exact .inr hb
  ·have:=run_append_grow (P:=P) w t ty e i z ht hi hz ⟨g,0,none⟩ n cap xs hown.1 (hown.cells (g:=g) rfl) ad m c news hl hnews oM oM (growslice_fits oM hbytes)
   rw[this] at hrun
   simp only[Result.ok.injEq] at hrun
   rw[<-hrun.1] at hb
   simp[wX] at hb
   exact .inl oM
theorem C2 {M:Nat->Prop} {y:SV} {u:Value} {rows2:List (List SV)} {sz:Nat} (hy:ae w M κ y u) (h:x_ y=some rows2) (hall:∀ r∈rows2,r.length=sz):
  ∃ ad cap,∃ news:List Value,u= .slice ad rows2.length cap/\ai w M κ rows2.flatten news/\(∀ x∈news,x.oneCell'=true)/\(rows2=[]/\news=[]\/∃ b o,ad=some ⟨b,o,none⟩/\∀ j v,news[j]?=some v->w.cell? ⟨b,o+j,none⟩=some v):=by
 have plain:(∀ sz n cs,y≠ .lit sz n cs)->∃ ad cap,∃ news:List Value,u= .slice ad rows2.length cap/\ai w M κ rows2.flatten news/\(∀ x∈news,x.oneCell'=true)/\(rows2=[]/\news=[]\/∃ b o,ad=some ⟨b,o,none⟩/\∀ j v,news[j]?=some v->w.cell? ⟨b,o+j,none⟩=some v):=fun hne=>by
  have h':∃ rows,y.toDV=some (.slice rows)/\rows2=rows.map dR:=by
   unfold x_ at h
   split at h
   ·rename_i sz n cs;exact absurd rfl (hne sz n cs)
   ·split at h
    ·rename_i rows hd;simp only[Oy] at h;exact⟨rows,hd,h.symm⟩
    ·cases h
  obtain⟨rows,hd,rfl⟩:=h'
  have hyr:=ae.toDV _ _ _ hy hd
  unfold aQ at hyr
  obtain⟨ad,cap,hyv,hcap,hnone,hyc⟩:=hyr
  by_cases hemp:rows=[]
  ·subst hemp;exact⟨ad,cap,[],hyv,by simp[ai],by simp,.inl ⟨rfl,rfl⟩⟩
  ·rcases hyc with hyc|⟨b,o,sz',rfl,hm,hb,hrr⟩
   ·exact absurd hyc hemp
   ·rw[aS.iff] at hrr
    obtain⟨vs,hv1,hv2,hv3⟩:=hrr.2.values
    exact⟨_,cap,vs,by simpa using hyv,by rw[Gc];exact Mr hv1,hv2,.inr ⟨b,o,rfl,hv3⟩⟩
 cases y with
 |lit sz' n cs=>
  simp only[x_,Oy] at h
  subst h
  simp only[ae] at hy
  obtain⟨b,vs,hv,h1,h2,h3,h4,h5,h6⟩:=hy
  refine⟨_,n,vs,by rw[il];exact hv, ?_,h4,.inr ⟨b,0,rfl,fun j v hj=>by rw[Ps];exact h5 j v hj⟩⟩
  rw[nl _ _ _ (by rw[<-h6.length];exact h3)]
  exact h6
 |_=>exact plain oS
theorem Bk (hr:cE c σ κ φ a w) {e sz d id:Nat} {x':Operand} {o:Oper} {rows rows2:List (List SV)} {xs news:List Value} {G:List Nat} {v':Value} {w':World} (hod:o.dst=some d) (hrun:(execOp a.eval o).run P w= .ok (.value v') w') (ho:w.ownsRow 0 e sz (a.eval x') rows.length xs) (hone:∀ x∈xs,x.oneCell'=true) (hall1:∀ r∈rows,r.length=sz) (hrep:am w (own c φ) κ rows.flatten xs G) (hφ:φ id=kh (a.eval x')++G)
  (hown':w'.ownsRow 0 e sz v' (rows.length+rows2.length) (xs++news)) (hgrow:w.grownBy w' (a.eval x').ownBlock) (hv':∀ b,wX v'=some b->w.heap.size<=b\/wX (a.eval x')=some b) (h1:ai w (own c φ) κ rows2.flatten news) (h2:∀ x∈news,x.oneCell'=true) (hall:∀ r∈rows2,r.length=sz) (hd':d<c.N):
  ku P c o a w (c6 σ d id e sz (rows++rows2)):=by
 have hshape:∀ (v:Value) (n:Nat) (xs:List Value) (w:World),w.ownsRow 0 e sz v n xs->(∀ x,v≠ .pointer x)/\(∀ x,v≠ .map x)/\v.oneCell'=true:=fun v n xs w h=>by
  rcases h.2 with⟨rfl,_⟩|⟨g,c,u,rfl,_⟩<;>simp[Value.oneCell']
 have hs1:=hshape _ _ _ _ ho
 have hs2:=hshape _ _ _ _ hown'
 have hbx:(a.eval x').ownBlock=wX (a.eval x'):=(tj _ hs1.1 hs1.2.1).symm
 have hmine:∀ b,wX (a.eval x')=some b->b∈φ id:=fun b hb=>by rw[hφ];simp[kh,hb]
 have hkeep:∀ b,b<w.heap.size->b∉kh (a.eval x')->w'.heap[b]?=w.heap[b]?:=fun b hb hn=>hgrow.block b hb fun he=>hn (by rw[hbx] at he;simp[kh,<-he])
 have hlt:∀ b,wX v'=some b->b<w'.heap.size:=fun b hb=>(hown'.lt b (by rw[<-tj _ hs2.1 hs2.2.1];exact hb)).2
 have hGin:∀ b∈G,b∈φ id:=fun b hb=>by rw[hφ];simp[hb]
 have hF:∀ b∈kh v'++G,(w.heap.size<=b\/b∈φ id)/\b<w'.heap.size:=fun b hb=>by
  rcases OV.1 hb with hb|hb
  ·simp only[kh,Option.mem_toList] at hb
   exact⟨(hv' b hb).imp _root_.id (hmine b),hlt b hb⟩
  ·exact⟨.inr (hGin b hb),O4 (hr.mine id b (hGin b hb)).1 hgrow.size⟩
 have hnodφ:=hr.nod id
 rw[hφ] at hnodφ
 have hnod:(kh v'++G).Nodup:=by
  have hG:=(Pc.1 hnodφ).2.1
  unfold kh
  cases hb:wX v' with
  |none=>simpa using hG
  |some b=>
   simp only[Option.toList_some,OM,OR,Qo]
   refine⟨fun hbG=> ?_,hG⟩
   rcases hv' b hb with h|h
   ·have:=(hr.mine id b (hGin b hbG)).1;omega
   ·exact(Pc.1 hnodφ).2.2 b (by simp[kh,h]) b hbG rfl
 have hkeep2:∀ b,b<w.heap.size->b∉φ id->w'.heap[b]?=w.heap[b]?:=fun b hb hn=>hkeep b hb fun h=>hn (by rw[hφ];simp[h])
 have hext:=sG hr (id:=id) hgrow.size hkeep2 hF
 have hGk:∀ b∈G,w'.heap[b]?=w.heap[b]?:=fun b hb=>hkeep b (hr.mine id b (hGin b hb)).1 fun h=>(Pc.1 hnodφ).2.2 b h b hb rfl
 have href:cE c (σ.swap id .any (.vec e sz (rx id .any (rows++rows2)))) (aH κ id v') (aH φ id (kh v'++G)) a w':=by
  refine hr.swap hs2.2.2 hgrow.os hgrow.tape hgrow.output hgrow.size hkeep2 hF hnod (by unfold aQ;trivial) ?_
  refine⟨xs++news,G,by rw[an,mO,OD];exact hown',fun x hx=> ?_, ?_, ?_,by rw[an]⟩
  ·rcases OV.1 hx with hx|hx
   ·exact hone x hx
   ·exact h2 x hx
  ·refine sE _ _ _ _ fun r hr'=> ?_
   rcases OV.1 hr' with hr'|hr'
   ·exact hall1 r hr'
   ·exact hall r hr'
  ·rw[kV,Qx]
   refine x7 hext (by unfold aQ;trivial) _ _ _ hGk ?_
   simpa using hrep.append (am.of_S _ _ h1)
 refine⟨.value v',w',aH κ id v',aH φ id (kh v'++G),hrun,.inl ⟨v',rfl, ?_⟩⟩
 rw[hod]
 exact href.putS (dst:=d) hd' (by simp only[ae,an])
theorem zY (hr:cE c σ κ φ a w) {t e sz d id:Nat} {x' y':Operand} {args:Array Operand} {ts:Array TypeId} {y:SX} {rows rows2:List (List SV)} {i:TypeInfo} {z:Value} (ha:args.toList=[x',y']) (hts:ts.toList=[t,t])
  (hu:P.underlying t=some (.slice e)) (hi:P.info? e=some i) (hsz:i.size=sz) (hpos:0<sz) (hby:i.bytes<=1024) (hz:i.zero=some z) (hzs:z.cells.size=sz)
  (hy:aA c.N y' y=true) (hyd:x_ (ev σ.s y)=some rows2) (hall:∀ r∈rows2,r.length=sz) (hlim:rows.length+rows2.length<=137438953472)
  (hown:∃ xs G,w.ownsRow 0 e sz (a.eval x') rows.length xs/\(∀ x∈xs,x.oneCell'=true)/\(∀ r∈rows,r.length=sz)/\am w (own c φ) κ rows.flatten xs G/\φ id=kh (a.eval x')++G) (ty:TypeId) (pos:String) (aft:Array Edge) (gd:Option (Nat×Bool)) (hd':d<c.N):
  ku P c ⟨some d,.call {callee:= .builtin .append,args,argTypes:=ts},ty,pos,aft,gd⟩ a w (c6 σ d id e sz (rows++rows2)):=by
 have e1:args= #[x',y']:=by rw[<-Pm];exact ha
 have e2:ts= #[t,t]:=by rw[<-Pm];exact hts
 subst e1 e2
 obtain⟨xs,G,ho,hone,hall1,hrep,hφ⟩:=hown
 obtain⟨ad,cap,news,hyv,h1,h2,h3⟩:=C2 (ag hr hy) hyd hall
 have hnl:news.length=rows2.length * sz:=by rw[h1.length,mN hall]
 obtain⟨v',w',hrun,hown',hgrow,hv'⟩:∃ v' w',(Builtin.append_ #[t,t] ty #[a.eval x',a.eval y']).run P w= .ok v' w'/\w'.ownsRow 0 e sz v' (rows.length+rows2.length) (xs++news)/\w.grownBy w' (a.eval x').ownBlock/\∀ b,wX v'=some b->w.heap.size<=b\/wX (a.eval x')=some b:=by
  rcases h3 with⟨rfl,rfl⟩|⟨b,o,rfl,hcells⟩
  ·refine⟨a.eval x',w, ?_,by simpa using ho,⟨rfl,rfl,rfl,OH _,fun _ _ _=>rfl⟩,fun b hb=> .inr hb⟩
   have hfc:(Builtin.firstCells sz 0 (.slice ad 0 cap)).run P w= .ok #[] w:=by
    cases ad<;>simp[Builtin.firstCells,loadCells,loadCellsFrom]
   rcases ho.2 with⟨hv,hn⟩|⟨g,cap',cur,hv,_,_,hcap',_⟩
   ·simp at hyv
    simp[Builtin.append_,hv,hyv,run_underlying hu,sizeOf,typeInfo,hi,Builtin.lenOf,hsz,hfc]
   ·simp at hyv
    have hs0:∀ A:Addr,(storeCells A [] 0).run P w= .ok () w:=fun A=>by simp[storeCells]
    simp[Builtin.append_,hv,hyv,run_underlying hu,sizeOf,typeInfo,hi,Builtin.lenOf,hsz,hfc,hcap',hs0]
  ·have hbytes:(rows.length+rows2.length) * i.bytes<=140737488355328:=by
    have:=Nat.mul_le_mul hlim hby
    omega
   obtain⟨v',w',hr1,hr2,hr3,_⟩:=run_append_own (P:=P) w 0 t ty e i z sz i.bytes hu hi hz hsz rfl hzs hpos (a.eval x') rows.length xs ho ⟨b,o,none⟩ rows2.length cap news hnl (fun j u hj=>by rw[gm];exact hcells j u hj) h2 (by simp only[maxLen];omega) hbytes (Pi _)
   refine⟨v',w',by rw[hyv];exact hr1,hr2,hr3, ?_⟩
   by_cases hm0:rows2.length=0
   ·have hr20:rows2=[]:=OX.1 hm0
    subst hr20
    have hn0:news=[]:=OX.1 (by simpa using hnl)
    subst hn0
    rcases ho.2 with⟨hv,hn⟩|⟨g,cap',cur,hv,_,hg,hcap',_,hcur,_⟩
    ·have:(Builtin.append_ #[t,t] ty #[.slice none 0 0,.slice (some ⟨b,o,none⟩) 0 cap]).run P w= .ok (.slice none 0 0) w:=by
      simp[Builtin.append_,run_underlying hu,sizeOf,typeInfo,hi,Builtin.lenOf,Builtin.firstCells,loadCells,loadCellsFrom]
     rw[hv] at hr1
     simp only[Pr] at hr1
     rw[this] at hr1
     simp only[Result.ok.injEq] at hr1
     intro b' hb'
     rw[<-hr1.1] at hb'
     simp[wX] at hb'
    ·subst hsz
     have:=run_append_room (P:=P) (ty:=ty) w t e i hu hi g rows.length cap' cur hg ⟨b,o,none⟩ 0 cap [] oS oS oS (by simpa using hcap') (by simp;rw[hcur];exact P5 _ hcap')
     rw[hv] at hr1
     simp only[Pr] at hr1
     rw[this] at hr1
     simp only[Result.ok.injEq] at hr1
     intro b' hb'
     rw[<-hr1.1] at hb'
     rw[hv]
     exact .inr hb'
   ·subst hsz
    exact DT (P:=P) w hu hi hz ho hnl (fun j u hj=>by rw[gm];exact hcells j u hj) h2 oM hlim hbytes hr1
 refine Bk hr (x':=x') rfl ?_ ho hone hall1 hrep hφ hown' hgrow hv' h1 h2 hall hd'
 obtain⟨cs,hcs⟩:=gZ (P:=P) (w:=w) (dst:=some d) (ty:=ty) (pos:=pos) (aft:=aft) (gd:=gd) a.eval .append #[x',y'] #[t,t]
 rw[hcs]
 simp only[builtin,Sem.run_bind]
 rw[show(#[x',y'].map a.eval)= #[a.eval x',a.eval y'] by simp,hrun]
 rfl
theorem GT (hr:cE c σ κ φ a w) {t u e d id:Nat} {x' y':Operand} {args:Array Operand} {ts:Array TypeId} {l:List UInt8} {rows:List (List SV)} {i:TypeInfo} (ha:args.toList=[x',y']) (hts:ts.toList=[t,u])
  (hu:P.underlying t=some (.slice e)) (hs:P.underlying u=some .string) (hi:P.info? e=some i) (hsz:i.size=1) (hby:i.bytes=1) (hz:i.zero=some (.int .u8 0))
  (hy:a.eval y'= .string ⟨l.toArray⟩) (hlim:rows.length+l.length<=137438953472)
  (hown:∃ xs G,w.ownsRow 0 e 1 (a.eval x') rows.length xs/\(∀ x∈xs,x.oneCell'=true)/\(∀ r∈rows,r.length=1)/\am w (own c φ) κ rows.flatten xs G/\φ id=kh (a.eval x')++G) (ty:TypeId) (pos:String) (aft:Array Edge) (gd:Option (Nat×Bool)) (hd':d<c.N):
  ku P c ⟨some d,.call {callee:= .builtin .append,args,argTypes:=ts},ty,pos,aft,gd⟩ a w (c6 σ d id e 1 (rows++l.map fun b=>[.d (.int .u8 b.toNat)])):=by
 have e1:args= #[x',y']:=by rw[<-Pm];exact ha
 have e2:ts= #[t,u]:=by rw[<-Pm];exact hts
 subst e1 e2
 obtain⟨xs,G,ho,hone,hall1,hrep,hφ⟩:=hown
 have hsl:(⟨l.toArray⟩:ByteArray).size=l.length:=by simp[ByteArray.size]
 obtain⟨v',w',hrun,hown',hgrow,_⟩:=Lib.run_append_own_string (P:=P) w 0 t u ty e i hu hs hi hz hsz hby (a.eval x') rows.length xs ho ⟨l.toArray⟩ (by unfold maxLen;omega) oM (Pi _)
 have hv':∀ b,wX v'=some b->w.heap.size<=b\/wX (a.eval x')=some b:=by
  intro b hb
  rcases ho.2 with⟨hv,hn⟩|⟨g,cap,cur,hv,_,hg,hnc,hcm,hcs,htake⟩
  ·by_cases hl:l.length=0
   ·have hl':l=[]:=OX.1 hl
    subst hl'
    have hf:=Lib.run_firstCells_string (P:=P) w 1 ⟨#[]⟩
    have h0:(⟨#[]⟩:ByteArray).size=0:=rfl
    rw[h0] at hf
    have:(Builtin.append_ #[t,u] ty #[.slice none 0 0,.string ⟨#[]⟩]).run P w= .ok (.slice none 0 0) w:=by
     simp[Builtin.append_,run_underlying hu,run_underlying hs,sizeOf,typeInfo,hi,hsz,Builtin.lenOf,h0,hf]
    rw[hv] at hrun
    rw[show(([]:List UInt8).toArray)= #[] from rfl,this] at hrun
    simp only[Result.ok.injEq] at hrun
    rw[<-hrun.1] at hb
    simp[wX] at hb
   ·have:=run_append_nil_string (P:=P) w t u ty e i (.int .u8 0) hu hs hi hz ⟨l.toArray⟩ oM oM (by rw[hby];omega)
    rw[hv,this] at hrun
    simp only[Result.ok.injEq] at hrun
    rw[<-hrun.1] at hb
    simp[wX] at hb
    exact .inl oM
  ·rw[hv] at hrun⊢
   by_cases hroom:rows.length+(⟨l.toArray⟩:ByteArray).size<=cap
   ·have:=Lib.run_append_room_string (P:=P) w t u ty e i hu hs hi hsz g rows.length cap cur hg ⟨l.toArray⟩ hroom oM
    rw[this] at hrun
    simp only[Result.ok.injEq] at hrun
    rw[<-hrun.1] at hb
    exact .inr hb
   ·have hxl:xs.length=rows.length * i.size:=by rw[hsz];exact ho.1
    have:=Lib.run_append_grow_string (P:=P) w t u ty e i (.int .u8 0) hu hs hi hz ⟨g,0,none⟩ rows.length cap xs hxl (ho.cells (g:=g) (by rw[hv];rfl)) ⟨l.toArray⟩ oM oM (by rw[hby];exact growslice_fits oM oM)
    rw[this] at hrun
    simp only[Result.ok.injEq] at hrun
    rw[<-hrun.1] at hb
    simp[wX] at hb
    exact .inl oM
 have hnews:∀ (r:List UInt8),ai w (own c φ) κ (r.map fun b=>[SV.d (.int .u8 b.toNat)]).flatten (r.map fun b=>Value.int .u8 b.toNat):=by
  intro r
  induction r with
  |nil=>simp[ai]
  |cons b r ih=>
   simp only[OQ,O_,OM,OR,ai]
   exact⟨_,_,rfl,by simp only[ae,aQ],ih⟩
 refine Bk hr (x':=x') (news:=Lib.strCells ⟨l.toArray⟩) rfl ?_ ho hone hall1 hrep hφ (by rw[Px,<-hsl];exact hown') hgrow hv' (hnews l) (Lib.strCells_oneCell _) (by intro r hr;obtain⟨b,_,rfl⟩:=Pd.1 hr;rfl) hd'
 obtain⟨cs,hcs⟩:=gZ (P:=P) (w:=w) (dst:=some d) (ty:=ty) (pos:=pos) (aft:=aft) (gd:=gd) a.eval .append #[x',y'] #[t,u]
 rw[hcs]
 simp only[builtin,Sem.run_bind]
 rw[show(#[x',y'].map a.eval)= #[a.eval x',a.eval y'] by simp,hy,hrun]
 rfl
theorem Bl (hr:cE c σ κ φ a w) {o:Oper} {d e sz:Nat} {rows:List (List SV)} {xs:List Value} {v':Value} {w':World} (hd:o.dst=some d) (hrun:(execOp a.eval o).run P w= .ok (.value v') w') (hB:Below w.heap.size w w')
  (ho:w'.ownsRow 0 e sz v' rows.length xs) (hone:∀ x∈xs,x.oneCell'=true) (hall:∀ r∈rows,r.length=sz) (hrep:ai w (own c φ) κ rows.flatten xs) (hnew:∀ b,wX v'=some b->w.heap.size<=b) (hd':d<c.N):
  ku P c o a w (c6 σ d d e sz rows):=by
 have hs:(∀ x,v'≠ .pointer x)/\(∀ x,v'≠ .map x)/\v'.oneCell'=true:=by
  rcases ho.2 with⟨rfl,_⟩|⟨g,c,u,rfl,_⟩<;>simp[Value.oneCell']
 have hlt:∀ b,wX v'=some b->b<w'.heap.size:=fun b hb=>(ho.lt b (by rw[<-tj _ hs.1 hs.2.1];exact hb)).2
 have hF:∀ b∈kh v',(w.heap.size<=b\/b∈φ d)/\b<w'.heap.size:=fun b hb=>by
  simp only[kh,Option.mem_toList] at hb;exact⟨.inl (hnew b hb),hlt b hb⟩
 have hext:=sG hr (id:=d) hB.size (fun b hb _=>hB.block b hb) hF
 have href:cE c (σ.swap d .any (.vec e sz (rx d .any rows))) (aH κ d v') (aH φ d (kh v')) a w':=by
  refine hr.swap hs.2.2 hB.os hB.tape hB.output hB.size (fun b hb _=>hB.block b hb) hF (by unfold kh;cases wX v'<;>simp) (by unfold aQ;trivial) ?_
  refine⟨xs,[],by rw[an,mO];exact ho,hone,sE _ _ _ _ hall, ?_,by rw[an,OY]⟩
  rw[kV]
  exact am.of_S _ _ (sF hext (by unfold aQ;trivial) _ _ hrep)
 refine⟨.value v',w',aH κ d v',aH φ d (kh v'),hrun,.inl ⟨v',rfl, ?_⟩⟩
 rw[hd]
 exact href.putS (dst:=d) hd' (by simp only[ae,an])
theorem uD (w:World) {e sz n cap:Nat} {xs:List Value} {more:Array Value} (hl:xs.length=n * sz) (hn:n<=cap) (hc:cap<=maxLen) (hm:more.size=(cap - n) * sz):
  (w.alloc (.cells (xs.toArray++more) e)).ownsRow 0 e sz (.slice (some ⟨w.heap.size,0,none⟩) n cap) n xs:=by
 refine⟨hl,.inr ⟨w.heap.size,cap,_,rfl,Pi _,heap_alloc_new w _,hn,hc, ?_, ?_⟩⟩
 ·simp only[Array.size_append,List.size_toArray,hl,hm,<-PD]
  congr 1;omega
 ·simp[<-hl]
theorem Mu (hr:cE c σ κ φ a w) {t e n sz d:Nat} {parts:Array (Nat×Operand)} {i:TypeInfo} {z:Value} {xs cs:List SV} (hu:P.underlying t=some (.slice e)) (hi:P.info? e=some i) (hsz:i.size=sz) (hpos:0<sz) (hlim:n * sz<=16777216)
  (hz:i.zero=some z) (hzs:z.cells.size=sz) (hn:n=parts.size) (hxs:ai w (own c φ) κ xs (parts.toList.map fun q=>a.eval q.2)) (hidx:∀ (j:Nat) q,parts.toList[j]?=some q->q.1=j) (hrows:kr sz xs=some cs)
  (ty:TypeId) (pos:String) (aft:Array Edge) (gd:Option (Nat×Bool)) (hd':d<c.N):ku P c ⟨some d,.buildSlice t n parts,ty,pos,aft,gd⟩ a w (c6 σ d d e sz (fC sz xs.length cs)):=by
 obtain⟨rs,hrun,h1,h2,h3⟩:=F7 (dst:=some d) (ty:=ty) (pos:=pos) (aft:=aft) (gd:=gd) hr.kok hu hi hsz hpos hlim hz hzs hn hxs hidx hrows
 have hxl:xs.length=n:=by have:=hxs.length;simp[hn] at this⊢;omega
 have hcl:cs.length=n * sz:=by have:=h3.length;omega
 have hnm:n<=maxLen:=by
  have:n<=n * sz:=Nat.le_mul_of_pos_right n hpos
  unfold maxLen;omega
 rw[hxl]
 refine Bl hr rfl hrun ((Below.refl _ w).alloc (OH _) _) (xs:=rs.flatten) ?_ h2 ?_ ?_ ?_ hd'
 ·rw[il]
  have:=uD w (e:=e) (more:= #[]) h1 (OH _) hnm oS
  simpa using this
 ·exact tc sz n cs hcl
 ·rw[nl sz n cs hcl];exact h3
 ·intro b hb
  simp only[wX,Oy] at hb
  omega
theorem Cy {vs:List Value} {sz:Nat} (hl:vs.length=sz) (h:0<sz):∀ n,madeCells vs.toArray (n * sz)=((List.replicate n vs).flatten).toArray:=by
 intro n
 have hle:∀ (n k:Nat) (hk:k<n * sz),(List.replicate n vs).flatten[k]?=vs[k%sz]?:=by
  intro n
  induction n with
  |zero=>intro k hk;omega
  |succ n ih=>
   intro k hk
   simp only[Qy,O_]
   by_cases h1:k<sz
   ·rw[Py oM,Nat.mod_eq_of_lt h1]
   ·rw[Pe oM,hl,ih (k - sz) (by rw[Nat.succ_mul] at hk;omega),<-Nat.mod_eq_sub_mod oM]
 apply Array.ext
 ·simp[madeCells,hl]
 ·intro k h1 h2
  have hk:k<n * sz:=by simpa[madeCells] using h1
  have hm:k%sz<vs.length:=by rw[hl];exact Nat.mod_lt _ h
  have e1:=hle n k hk
  rw[OJ (by simpa[hl] using hk),OJ hm] at e1
  simp only[Oy] at e1
  simp only[madeCells,Array.getElem_map,Array.getElem_range,List.size_toArray,hl,List.getElem_toArray,e1]
  simp[hm]
theorem ai.rep {M:Nat->Prop} {cs:List SV} {vs:List Value} (h:ai w M κ cs vs):∀ n,ai w M κ (List.replicate n cs).flatten (List.replicate n vs).flatten
 |0=>by simp[ai]
 |n+1=>by simp only[Qy,O_];exact h.append (ai.rep h n)
theorem Mv (hr:cE c σ κ φ a w) {t e sz d:Nat} {l cp:Operand} {x y:SX} {k1 k2:IntKind} {n m:Int} {i:TypeInfo} {z:Value} {zv:SV} {cs:List SV} (hu:P.underlying t=some (.slice e)) (hi:P.info? e=some i) (hsz:i.size=sz) (hpos:0<sz) (hby:i.bytes<=1024)
  (hz:i.zero=some z) (hzs:z.cells.size=sz) (hzv:qf z zv=true) (hc:zv.cells?=some cs) (hl:aA c.N l x=true) (hm:aA c.N cp y=true) (hx:ev σ.s x= .d (.int k1 n)) (hy:ev σ.s y= .d (.int k2 m)) (hcs:cs.length=sz) (h0:0<=n) (h1:n<=m) (h2:m<=137438953472)
  (ty:TypeId) (pos:String) (aft:Array Edge) (gd:Option (Nat×Bool)) (hd':d<c.N):ku P c ⟨some d,.makeSlice t l cp,ty,pos,aft,gd⟩ a w (c6 σ d d e sz (List.replicate n.toNat cs)):=by
 obtain⟨vs,g1,g2,g3⟩:=(pa (w:=w) (M:=own c φ) (κ:=κ) hzv).cells hr.kok hc
 have hlr:=ag hr hl
 rw[hx] at hlr
 simp only[ae,aQ] at hlr
 have hmr:=ag hr hm
 rw[hy] at hmr
 simp only[ae,aQ] at hmr
 have hvl:vs.length=sz:=by rw[g1] at hzs;simpa using hzs
 have hb:(i.bytes:Int) * m<=281474976710656:=by
  have:(i.bytes:Int)<=1024:=by omega
  have h3:(i.bytes:Int) * m<=1024 * m:=Int.mul_le_mul_of_nonneg_right this oM
  omega
 have hrun:=run_make (P:=P) w t e i z hu hi hz k1 k2 n m h0 h1 hb oM
 have hmc:madeCells z.cells (m.toNat * i.size)=((List.replicate n.toNat vs).flatten).toArray++((List.replicate (m.toNat - n.toNat) vs).flatten).toArray:=by
  rw[g1,hsz,Cy hvl hpos]
  have e1:List.replicate m.toNat vs=List.replicate n.toNat vs++List.replicate (m.toNat - n.toNat) vs:=by
   rw[List.replicate_append_replicate];congr 1;omega
  rw[e1,Qx];simp only[List.append_toArray]
 have hfl:∀ k,((List.replicate k vs).flatten).length=k * sz:=fun k=>by simp[hvl]
 refine Bl hr (v':= .slice (some ⟨w.heap.size,0,none⟩) n.toNat m.toNat) (xs:=(List.replicate n.toNat vs).flatten) rfl (w':=w.alloc (.cells (madeCells z.cells (m.toNat * i.size)) e)) ?_ ((Below.refl _ w).alloc (OH _) _) ?_ ?_ ?_ ?_ ?_ hd'
 ·simp only[execOp,hlr,hmr,hrun,Sem.run_bind,Result.andThen_ok,Sem.run_pure]
 ·rw[hmc,Qe]
  exact uD w (e:=e) (hfl _) oM (by unfold maxLen;omega) (by rw[List.size_toArray,hfl])
 ·intro u hu'
  obtain⟨r,hr1,hr2⟩:=List.mem_flatten.1 hu'
  rw[(List.mem_replicate.1 hr1).2] at hr2
  exact g2 u hr2
 ·intro r hr'
  rw[(List.mem_replicate.1 hr').2];exact hcs
 ·exact g3.rep _
 ·intro b hb'
  simp only[wX,Oy] at hb'
  omega
theorem Gd (hr:cE c σ κ φ a w) {t e sz d n:Nat} {x' y':Operand} {args:Array Operand} {ts:Array TypeId} {x y:SX} {cs:List SV} {rows2:List (List SV)} {i:TypeInfo} {z:Value} (ha:args.toList=[x',y']) (hts:ts.toList=[t,t])
  (hu:P.underlying t=some (.slice e)) (hi:P.info? e=some i) (hsz:i.size=sz) (hby:i.bytes<=1024) (hz:i.zero=some z) (hzs:z.cells.size=sz)
  (hx:aA c.N x' x=true) (hxd:ev σ.s x= .lit sz n cs) (hy:aA c.N y' y=true) (hyd:x_ (ev σ.s y)=some rows2) (hpos:0<rows2.length) (hall:∀ r∈rows2,r.length=sz) (hlim:n+rows2.length<=137438953472) (ty:TypeId) (pos:String) (aft:Array Edge) (gd:Option (Nat×Bool)) (hd':d<c.N):
  ku P c ⟨some d,.call {callee:= .builtin .append,args,argTypes:=ts},ty,pos,aft,gd⟩ a w (c6 σ d d e sz (fC sz n cs++rows2)):=by
 have e1:args= #[x',y']:=by rw[<-Pm];exact ha
 have e2:ts= #[t,t]:=by rw[<-Pm];exact hts
 subst e1 e2
 subst hsz
 have hxr:=ag hr hx
 rw[hxd] at hxr
 simp only[ae] at hxr
 obtain⟨g,vs,hxv,g1,g2,g3,g4,g5,g6⟩:=hxr
 obtain⟨ad,cap,news,hyv,h1,h2,h3⟩:=C2 (ag hr hy) hyd hall
 have hnl:news.length=rows2.length * i.size:=by rw[h1.length,mN hall]
 rcases h3 with⟨rfl,rfl⟩|⟨b,o,rfl,hcells⟩
 ·simp at hpos
 have hbytes:(n+rows2.length) * i.bytes<=140737488355328:=by
  have:=Nat.mul_le_mul hlim hby
  omega
 have hrun:=run_append_grow (P:=P) w t ty e i z hu hi hz ⟨g,0,none⟩ n n vs g3 (fun j v hj=>by rw[gm,Ps];exact g5 j v hj) ⟨b,o,none⟩ rows2.length cap news hnl (fun j u hj=>by rw[gm];exact hcells j u hj) oM oM (growslice_fits oM hbytes)
 have hcl:cs.length=n * i.size:=by rw[<-g6.length];exact g3
 refine Bl hr (v':= .slice (some ⟨w.heap.size,0,none⟩) (n+rows2.length) (grownCap w (n+rows2.length) n e)) (xs:=vs++news) rfl (w':=w.drew.alloc (.cells (vs.toArray++news.toArray++Builtin.zeroCells z.cells (grownCap w (n+rows2.length) n e - (n+rows2.length))) e)) ?_ ?_ ?_ ?_ ?_ ?_ ?_ hd'
 ·obtain⟨cs',hcs⟩:=gZ (P:=P) (w:=w) (dst:=some d) (ty:=ty) (pos:=pos) (aft:=aft) (gd:=gd) a.eval .append #[x',y'] #[t,t]
  rw[hcs]
  simp only[builtin,Sem.run_bind]
  rw[show(#[x',y'].map a.eval)= #[a.eval x',a.eval y'] by simp,hxv,hyv,hrun]
  rfl
 ·exact((Below.refl _ _).drew).alloc (OH _) _
 ·have:=uD w.drew (e:=e) (sz:=i.size) (n:=n+rows2.length) (cap:=grownCap w (n+rows2.length) n e) (xs:=vs++news) (more:=Builtin.zeroCells z.cells (grownCap w (n+rows2.length) n e - (n+rows2.length))) (by simp[g3,hnl,PD]) (grownCap_ge _ _ _ _) (grownCap_le_maxLen _ _ _ _ (by simp only[maxLen];omega)) (by rw[size_zeroCells,hzs])
  have e3:(vs++news).toArray=vs.toArray++news.toArray:=by simp
  rw[e3] at this
  rw[OD,il]
  exact this
 ·intro x hx
  rcases OV.1 hx with hx|hx
  ·exact g4 x hx
  ·exact h2 x hx
 ·intro r hr'
  rcases OV.1 hr' with hr'|hr'
  ·exact tc _ _ _ hcl r hr'
  ·exact hall r hr'
 ·rw[Qx,nl _ _ _ hcl]
  exact g6.append h1
 ·intro b hb;simp[wX] at hb;omega
theorem Je (hr:cE c σ κ φ a w) {t e e' sz d id:Nat} {x hi:Operand} {y h:SX} {k:IntKind} {n:Int} {rows:List (List SV)} (hu:P.underlying t=some (.slice e)) (hi':(P.info? e).isSome=true) (hsz:P.cellsOf e=sz)
  (hx:aA c.N x y=true) (hh:aA c.N hi h=true) (hxd:ev σ.s y= .vec id) (hhd:ev σ.s h= .d (.int k n)) (hv:σ.h id= .vec e' sz rows) (h0:0<=n) (hn:n<=rows.length) (ty:TypeId) (pos:String) (aft:Array Edge) (gd:Option (Nat×Bool)) (hd':d<c.N):
  ku P c ⟨some d,.slice t x none (some hi) none,ty,pos,aft,gd⟩ a w (c6 σ d id e' sz (rows.take n.toNat)):=by
 have hxr:=ag hr hx
 rw[hxd] at hxr
 simp only[ae] at hxr
 have hhr:=ag hr hh
 rw[hhd] at hhr
 simp only[ae,aQ] at hhr
 have hch:=hr.chunks id
 rw[hv] at hch
 obtain⟨xs,G,ho,hone,hall,hrep,hφ⟩:=hch
 have hnt:n.toNat<=rows.length:=by omega
 obtain⟨ad,cap,hvx,hcl,hv',ho'⟩:∃ ad cap,κ id= .slice ad rows.length cap/\rows.length<=cap/\kh (.slice ad n.toNat cap)=kh (κ id)/\w.ownsRow 0 e' sz (.slice ad n.toNat cap) n.toNat (xs.take (n.toNat * sz)):=by
  have hxl:(xs.take (n.toNat * sz)).length=n.toNat * sz:=by
   rw[OT,ho.1,QB (P5 _ hnt)]
  rcases ho.2 with⟨hk,hz⟩|⟨g,cap,cur,hk,hB,hg,hcap,hmax,hcur,htake⟩
  ·refine⟨none,0,by rw[hk,hz],by omega,by rw[hk];rfl,hxl,.inl ⟨by congr 1;omega,by omega⟩⟩
  ·refine⟨some ⟨g,0,none⟩,cap,hk,hcap,by rw[hk];rfl,hxl,.inr ⟨g,cap,cur,rfl,hB,hg,by omega,hmax,hcur, ?_⟩⟩
   rw[<-htake,List.take_take,QB (P5 _ hnt)]
 have hvx':=hxr.trans hvx
 have hbd:=qz (P:=P) (w:=w) (isS:=true) (len:=rows.length) (cap:=cap) (lo:=none) (hi:=some (a.eval hi)) (l:=none) (h:=some n) (.inl ⟨rfl,rfl⟩) (.inr ⟨k,n,by rw[hhr],rfl⟩) oS (by simpa using h0) (by simpa using hn) hcl
 have hrun:(execOp a.eval ⟨some d,.slice t x none (some hi) none,ty,pos,aft,gd⟩).run P w= .ok (.value (.slice ad n.toNat cap)) w:=by
  simp only[execOp,Instr.sliceAt,Instr.slice,Sem.run_bind,run_underlying hu,Result.andThen_ok,hvx',Qn,Pf,hbd,dH hi']
  simp
  cases ad with
  |none=>simp
  |some A=>simp[Addr.add]
 obtain⟨G',hG',hrep'⟩:=hrep.take (n.toNat * sz)
 have hfl:(rows.take n.toNat).flatten=rows.flatten.take (n.toNat * sz):=by
  have h3:rows.flatten=(rows.take n.toNat).flatten++(rows.drop n.toNat).flatten:=by rw[<-Qx,OU]
  have hl:(rows.take n.toNat).flatten.length=n.toNat * sz:=by rw[mN (sz:=sz) fun r hr=>hall r (O0 hr),OT,QB hnt]
  rw[h3,List.take_append_of_le_length oM]
  exact(O8 oM).symm
 have hsub:(kh (κ id)++G').Sublist (φ id):=by rw[hφ];exact Qv (Qp _) hG'
 have hF:∀ b∈kh (κ id)++G',(w.heap.size<=b\/b∈φ id)/\b<w.heap.size:=fun b hb=>⟨.inr (hsub.subset hb),(hr.mine id b (hsub.subset hb)).1⟩
 have hext:=sG hr (id:=id) (OH _) (fun b _ _=>rfl) hF
 have href:cE c (σ.swap id .any (.vec e' sz (rx id .any (rows.take n.toNat)))) (aH κ id (.slice ad n.toNat cap)) (aH φ id (kh (κ id)++G')) a w:=by
  refine hr.swap rfl rfl rfl rfl (OH _) (fun b _ _=>rfl) hF ((hr.nod id).sublist hsub) (by unfold aQ;trivial) ?_
  refine⟨xs.take (n.toNat * sz),G', ?_,fun x hx=>hone x (O0 hx),sE _ _ _ _ fun r hr=>hall r (O0 hr), ?_,by rw[an,hv']⟩
  ·rw[an,mO,OT,QB hnt];exact ho'
  ·rw[kV,hfl]
   exact x7 hext (by unfold aQ;trivial) _ _ _ (fun _ _=>rfl) hrep'
 refine⟨.value (.slice ad n.toNat cap),w,_,_,hrun,.inl ⟨_,rfl,href.putS (dst:=d) hd' (by simp only[ae,an])⟩⟩
theorem Jf (hr:cE c σ κ φ a w) {t:TypeId} {d:Nat} (kk:KK) (ty:TypeId) (pos:String) (aft:Array Edge) (gd:Option (Nat×Bool)) (hd':d<c.N):
  ku P c ⟨some d,.makeMap t none,ty,pos,aft,gd⟩ a w {σ.swap d .any (.map kk []) with s:=aH (gn d .any σ.s) d (.mp d)}:=by
 have hB:Below w.heap.size w (w.alloc (.map #[] 0)):=(Below.refl _ _).alloc (OH _) _
 have hF:∀ b∈[w.heap.size],(w.heap.size<=b\/b∈φ d)/\b<(w.alloc (.map #[] 0)).heap.size:=fun b hb=>by
  simp at hb;subst hb;exact⟨.inl (OH _),by simp⟩
 have href:cE c (σ.swap d .any (.map kk [])) (aH κ d (.map (some w.heap.size))) (aH φ d [w.heap.size]) a (w.alloc (.map #[] 0)):=by
  refine hr.swap rfl rfl rfl rfl hB.size (fun b hb _=>hB.block b hb) hF oS (by unfold aQ;trivial) ?_
  exact⟨w.heap.size,[],0,[],by rw[an],heap_alloc_new w _,⟨(fun _ he=>nomatch he),List.nodup_nil⟩,by unfold bk;exact⟨rfl,rfl⟩,rfl⟩
 refine⟨.value (.map (some w.heap.size)),w.alloc (.map #[] 0),aH κ d (.map (some w.heap.size)),aH φ d [w.heap.size], ?_,.inl ⟨.map (some w.heap.size),rfl, ?_⟩⟩
 ·simp only[execOp,Instr.makeMap,newObj,Sem.run_bind,Sem.run,Result.andThen_ok,Sem.run_pure,Qn]
  rfl
 ·exact href.putS (dst:=d) hd' (by simp only[ae,an])
theorem DU {kk:KK} {x:DV} {v:Value} (hf:kk.fits x=true) (hk:dD x=some v) (n:Nat):Instr.sameBits n v v=true:=by
 cases kk<;>cases x<;>simp[KK.fits] at hf<;>simp[dD] at hk<;>subst hk<;>simp[Instr.sameBits,y6]
theorem HQ {es:List MapEntry} {clock:Nat} {k v:Value} (h:DI es clock):DI (es++[{key:=k,val:=v,born:=clock}]) (clock+1):=by
 refine⟨fun e he=> ?_, ?_⟩
 ·rcases OV.1 he with he|he
  ·have:=h.1 e he;omega
  ·simp only[OP] at he;subst he;exact Nat.lt_succ_self _
 ·rw[QC,Pc]
  refine⟨h.2,by simp,fun a ha b hb=> ?_⟩
  obtain⟨e,he,rfl⟩:=Pd.1 ha
  simp only[OQ,PU,OP] at hb
  subst hb
  have:=h.1 e he
  omega
theorem EQ {es:List MapEntry} {clock j:Nat} {k v:Value} (h:DI es clock):DI (es.modify j fun e=>{e with key:=k,val:=v}) clock:=by
 have hm:(es.modify j fun e=>{e with key:=k,val:=v}).map (·.born)=es.map (·.born):=by
  apply List.ext_getElem?
  intro i
  simp only[O6,List.getElem?_modify]
  by_cases hij:j=i
  ·subst hij;cases es[j]?<;>simp
  ·simp[hij]
 refine⟨fun e he=> ?_,by rw[hm];exact h.2⟩
 have h1:e.born∈es.map (·.born):=by rw[<-hm];exact List.mem_map_of_mem he
 obtain⟨e',he',h2⟩:=Pd.1 h1
 have:=h.1 e' he'
 omega
theorem K3 (hr:cE c σ κ φ a w) {t kt e:TypeId} {x y z:Operand} {m k v:SX} {kk:KK} {id:Nat} {kv:List (DV×SV)} {kd:DV} (h1:aA c.N x m=true) (h2:aA c.N y k=true) (h3:aA c.N z v=true) (ht:P.underlying t=some (.map kt e)) (hk:Cr P kt=some kk)
  (hm:ev σ.s m= .mp id) (hkd:ev σ.s k= .d kd) (hh:σ.h id= .map kk kv) (hf:kk.fits kd=true) (ty:TypeId) (pos:String) (aft:Array Edge) (gd:Option (Nat×Bool)):
  ku P c ⟨none,.mapUpdate t x y z,ty,pos,aft,gd⟩ a w ⟨σ.s,aH σ.h id (.map kk (no kv kd (ev σ.s v)))⟩:=by
 have hx:=ag hr h1
 have hy:=ag hr h2
 have hz:=ag hr h3
 rw[hm] at hx
 rw[hkd] at hy
 simp only[ae] at hx
 have hch:=hr.chunks id
 rw[hh] at hch
 obtain⟨r,es,clock,G,hkr,hheap,hborn,hmap,hφ⟩:=hch
 have hx':=hx.trans hkr
 have hdesc:=sD hk
 have hkey:=CS hf hy.d
 have hck:∀ b,(Instr.checkKey b 10000 kt (a.eval y)).run P w= .ok () w:=fun b=>qw hdesc _ 9999
 have hgo:(getObj r).run P w= .ok (.map es.toArray clock) w:=by simp[getObj,Sem.run,hheap]
 have hso:∀ o,(setObj r o).run P w= .ok () {w with heap:=w.heap.setIfInBounds r o}:=fun o=>by simp[setObj,Sem.run,hheap]
 have hrlt:r<w.heap.size:=(Pw.1 hheap).1
 have fin:∀ (es':List MapEntry) (c':Nat) (G':List Nat),G'.Sublist G->DI es' c'->bk w (own c φ) κ kk (no kv kd (ev σ.s v)) es' G'->
   cE c ⟨σ.s,aH σ.h id (.map kk (no kv kd (ev σ.s v)))⟩ κ (aH φ id (r::G')) a {w with heap:=w.heap.setIfInBounds r (.map es'.toArray c')}:=fun es' c' G' hG' hbo hrm=>by
  have hoth:∀ b,b≠r->({w with heap:=w.heap.setIfInBounds r (.map es'.toArray c')}:World).heap[b]?=w.heap[b]?:=fun b hb=>by
   simp[Array.getElem?_setIfInBounds_ne (Ne.symm hb)]
  refine hr.modify rfl rfl rfl oS (fun b hb=>hoth b fun e=>hb (by rw[hφ,e];simp)) (by rw[hφ];exact hG'.cons_cons r) fun hext=> ?_
  refine⟨r,es',c',G',hkr,by simp[hrlt],hbo,bk.ext hext _ _ _ (fun b hb=>hoth b fun e=> ?_) hrm,rfl⟩
  have:=hr.nod id
  rw[hφ] at this
  exact(Qo.1 this).1 (by rw[<-e];exact hG'.subset hb)
 cases hg:n_ kv kd with
 |none=>
  have hfn:=uA (P:=P) (w:=w) hdesc (y7 hf hkey 0 hmap hg)
  refine⟨.skip,_,κ,aH φ id (r::G), ?_,.inr ⟨rfl,fin (es++[{key:=a.eval y,val:=a.eval z,born:=clock}]) (clock+1) G (Qp _) (HQ hborn) ?_⟩⟩
  ·simp only[execOp,Instr.mapUpdate,Sem.run_bind,run_underlying ht,Result.andThen_ok,hx',hgo,hck,hfn,hso,Sem.run_pure]
   simp
  ·simpa using EI (b:=clock) hf hkey hmap hg (ev σ.s v) (a.eval z) [] (aK.of_S _ _ hz)
 |some d'=>
  obtain⟨j,e',Fa,Fe,Fb,g1,g2,gF,g3,g4,g5⟩:=y8 hf hkey 0 hmap hg
  have hfn:=uA (P:=P) (w:=w) hdesc g2
  have hstay:(Instr.keyThatStays e'.key (a.eval y)).run P w= .ok (a.eval y) w:=by
   rw[g4]
   simp[Instr.keyThatStays,DU hf hkey]
  refine⟨.skip,_,κ,aH φ id (r::(Fa++[]++Fb)), ?_,.inr ⟨rfl,fin (es.modify j fun e=>{e with key:=a.eval y,val:=a.eval z}) clock (Fa++[]++Fb) ?_ (EQ hborn) (g5 _ _ [] (aK.of_S _ _ hz))⟩⟩
  ·simp only[Ps] at hfn
   simp only[execOp,Instr.mapUpdate,Sem.run_bind,run_underlying ht,Result.andThen_ok,hx',hgo,hck,hfn,List.getElem?_toArray,g1,Pf,Pl,hstay,hso,Sem.run_pure,List.modify_toArray]
  ·rw[gF]
   exact Qv (Qv (Qp _) (List.nil_sublist _)) (Qp _)
end
