/-
  My text.
-/
import Derived.Test.YteaolfcegaidpaaGreatDoorSXEngD
import Derived.Lib.Strings
import Derived.Laws.BytesArg
import Derived.Laws.Runes
import Derived.Laws.IdiomStrings
namespace Go.Proofs.YteaolfcegaidpaaGreatDoor
set_option linter.unusedSimpArgs false
set_option linter.unusedVariables false
open Go.RowKit
def c6 (P:Program) (a:Act) (o:Oper) (w:World) (M:Nat->Prop) (κ:Nat->Value) (x:SV):Prop:=
 ∃ v w',(execOp a.eval o).run P w= .ok (.value v) w'/\Below w.heap.size w w'/\af w' M κ x v
section
variable {P:Program} {a:Act} {w:World} {M:Nat->Prop} {κ:Nat->Value} {dst:Option Tmp} {ty:TypeId} {pos:String} {aft:Array Edge} {gd:Option (Nat×Bool)}
theorem av {o:Oper} {x:SV} {v:Value} (h:(execOp a.eval o).run P w= .ok (.value v) w) (hx:af w M κ x v):c6 P a o w M κ x:=⟨v,w,h,Below.refl _ _,hx⟩
theorem G8 {x:Operand} {y:SV} (h:af w M κ y (a.eval x)):c6 P a ⟨dst,.move x,ty,pos,aft,gd⟩ w M κ y:=av (by simp[execOp]) h
theorem B3 {x:Operand} {y:SV} (h:af w M κ y (a.eval x)):c6 P a ⟨dst,.assign x,ty,pos,aft,gd⟩ w M κ y:=av (by simp[execOp]) h
theorem zi {c x y:Operand} {t:Bool} {z:SV} (hc:af w M κ (.d (.bool t)) (a.eval c)) (h:af w M κ z (if t then a.eval x else a.eval y)):c6 P a ⟨dst,.pick c x y,ty,pos,aft,gd⟩ w M κ z:=by
 simp only[af,aK] at hc
 refine av (v:=if t then a.eval x else a.eval y) ?_ h
 simp[execOp,hc,asBool]
theorem lP {t:TypeId} {d:TypeDesc} (h:P.underlying t=some d) (w:World):(isAgg t).run P w= .ok (iD d) w:=by
 simp only[isAgg,Sem.run_bind,run_underlying h,Result.andThen_ok]
 cases d<;>simp[iD]
theorem cM {t:TypeId} (h:(P.info? t).isSome=true) (w:World):(sizeOf t).run P w= .ok (P.cellsOf t) w:=by
 obtain⟨i,hi⟩:=MV.1 h
 simp[sizeOf,typeInfo,hi,Program.cellsOf]
theorem B4 {t:TypeId} {d:TypeDesc} (h:P.underlying t=some d) (hd:iD d=false) {b o:Nat} {v:Value} (hc:w.cell? ⟨b,o,none⟩=some v):(loadVar t ⟨b,o,none⟩).run P w= .ok v w:=by
 simp[loadVar,lP h,hd,hc]
theorem mn {t:TypeId} {d:TypeDesc} (h:P.underlying t=some d) (hd:iD d=true) (hi:(P.info? t).isSome=true) {b o:Nat} {vs:List Value} (hn:P.cellsOf t=vs.length)
  (hc:∀ j v,vs[j]?=some v->w.cell? ⟨b,o+j,none⟩=some v):(loadVar t ⟨b,o,none⟩).run P w= .ok (.agg vs.toArray) w:=by
 have:=run_loadCells_list (P:=P) w ⟨b,o,none⟩ vs (fun j v hj=>by rw[fE];exact hc j v hj)
 simp[loadVar,lP h,hd,cM hi,hn,this]
theorem xm {t:TypeId} {d:TypeDesc} {x:Operand} {b o:Nat} {v:Value} {y:SV} (h:P.underlying t=some d) (hd:iD d=false) (hx:a.eval x= .pointer (some ⟨b,o,none⟩))
  (hc:w.cell? ⟨b,o,none⟩=some v) (hy:af w M κ y v):c6 P a ⟨dst,.load t x,ty,pos,aft,gd⟩ w M κ y:=
 av (v:=v) (by simp[execOp,Instr.loadAt,Instr.sureAddr,hx,B4 h hd hc]) hy
theorem xp {t:TypeId} {d:TypeDesc} {x:Operand} {b o:Nat} {vs:List Value} {y:SV} (h:P.underlying t=some d) (hd:iD d=true) (hi:(P.info? t).isSome=true) (hn:P.cellsOf t=vs.length) (hx:a.eval x= .pointer (some ⟨b,o,none⟩))
  (hc:∀ j v,vs[j]?=some v->w.cell? ⟨b,o+j,none⟩=some v) (hy:af w M κ y (.agg vs.toArray)):c6 P a ⟨dst,.load t x,ty,pos,aft,gd⟩ w M κ y:=
 av (v:= .agg vs.toArray) (by simp[execOp,Instr.loadAt,Instr.sureAddr,hx,mn h hd hi hn hc]) hy
theorem FZ {T:TypeId} {x:Operand} {vs:List Value} {cs:List DV} (hM:∀ b,M b->b<w.heap.size) (hv:(a.eval x).cells=vs.toArray) (h1:∀ u∈vs,u.oneCell'=true) (hc:aB w M cs vs):
  c6 P a ⟨dst,.box T x,ty,pos,aft,gd⟩ w M κ (.d (.ptr cs)):=by
 refine⟨.pointer (some ⟨w.heap.size,0,none⟩),w.alloc (.cells vs.toArray T), ?_,(Below.refl _ _).alloc (Me _) _, ?_⟩
 ·simp only[execOp,Instr.box,newVar,newRow,newObj,hv,Sem.run_bind,Sem.run,Result.andThen_ok,Sem.run_pure]
  rfl
 ·simp only[af,aK]
  refine⟨w.heap.size,0,rfl,fun h=>Nat.lt_irrefl _ (hM _ h),by simp, ?_⟩
  exact bq.of_row (heap_alloc_new w _) (hc.ext (kN.of_below ((Below.refl _ _).alloc (Me _) _))) h1 oS
theorem xq {t:TypeId} {i:TypeInfo} {z:Value} (hi:P.info? t=some i) (hz:i.zero=some z) {vs:List Value} (hv:z.cells=vs.toArray):(execOp a.eval ⟨dst,.alloc t,ty,pos,aft,gd⟩).run P w= .ok (.value (.pointer (some ⟨w.heap.size,0,none⟩))) (w.alloc (.cells vs.toArray t)):=by
 have hzv:(zeroValue t).run P w= .ok z w:=by simp[zeroValue,typeInfo,hi,hz]
 simp only[execOp,Instr.alloc,newVar,newRow,newObj,hv,Sem.run_bind,hzv,Sem.run,Result.andThen_ok,Sem.run_pure]
 rfl
theorem C0 {t:TypeId} {i:TypeInfo} {z:Value} (hi:P.info? t=some i) (hz:i.zero=some z) {vs:List Value} {cs:List DV} (hM:∀ b,M b->b<w.heap.size) (hv:z.cells=vs.toArray) (h1:∀ u∈vs,u.oneCell'=true) (hc:aB w M cs vs):
  c6 P a ⟨dst,.alloc t,ty,pos,aft,gd⟩ w M κ (.d (.ptr cs)):=by
 refine⟨.pointer (some ⟨w.heap.size,0,none⟩),w.alloc (.cells vs.toArray t),xq hi hz hv,(Below.refl _ _).alloc (Me _) _, ?_⟩
 simp only[af,aK]
 refine⟨w.heap.size,0,rfl,fun h=>Nat.lt_irrefl _ (hM _ h),by simp, ?_⟩
 exact bq.of_row (heap_alloc_new w _) (hc.ext (kN.of_below ((Below.refl _ _).alloc (Me _) _))) h1 oS
theorem xr {t:TypeId} {fs:Array Field} {f:Field} {i:Nat} {x:Operand} {b o:Nat} {y:SV} (h:P.underlying t=some (.struct fs)) (hf:fs[i]?=some f) (hi:(P.info? f.type).isSome=true) (hn:P.cellsOf f.type≠0)
  (hx:a.eval x= .pointer (some ⟨b,o,none⟩)) (hy:af w M κ y (.pointer (some ⟨b,o+f.offset,none⟩))):c6 P a ⟨dst,.fieldAddr t x i,ty,pos,aft,gd⟩ w M κ y:=
 av (v:= .pointer (some ⟨b,o+f.offset,none⟩)) (by simp[execOp,Instr.fieldAt,Instr.sureAddr,hx,run_underlying h,hf,fieldPlace,cM hi,hn,fE]) hy
theorem zj {t e:TypeId} {len:Nat} {x i:Operand} {k:IntKind} {n:Int} {d:TypeDesc} {vs:List Value} {v:Value} {y:SV} (h:P.underlying t=some (.array len e)) (hi:(P.info? e).isSome=true) (h1:P.cellsOf e=1) (hu:P.underlying e=some d) (hd:iD d=false)
  (hx:a.eval x= .agg vs.toArray) (hn:a.eval i= .int k n) (h0:0<=n) (hl:n<len) (hv:vs[n.toNat]?=some v) (hy:af w M κ y v):c6 P a ⟨dst,.index t x i,ty,pos,aft,gd⟩ w M κ y:=
 av (v:=v) (by simp[execOp,Instr.index,hx,hn,asIntOf,run_underlying h,h0,hl,part,lP hu,hd,cM hi,h1,hv]) hy
theorem ye {t e:TypeId} {len:Nat} {x i:Operand} {k:IntKind} {n:Int} {d:TypeDesc} {vs:List Value} {y:SV} (h:P.underlying t=some (.array len e)) (hi:(P.info? e).isSome=true) (hu:P.underlying e=some d) (hd:iD d=true)
  (hx:a.eval x= .agg vs.toArray) (hn:a.eval i= .int k n) (h0:0<=n) (hl:n<len) (hy:af w M κ y (.agg ((vs.drop (n.toNat * P.cellsOf e)).take (P.cellsOf e)).toArray)):c6 P a ⟨dst,.index t x i,ty,pos,aft,gd⟩ w M κ y:=by
 refine av (v:= .agg ((vs.drop (n.toNat * P.cellsOf e)).take (P.cellsOf e)).toArray) ?_ hy
 simp[execOp,Instr.index,hx,hn,asIntOf,run_underlying h,h0,hl,part,lP hu,hd,cM hi,List.extract_eq_take_drop]
theorem zk {t:TypeId} {fs:Array Field} {f:Field} {i:Nat} {x:Operand} {d:TypeDesc} {vs:List Value} {v:Value} {y:SV} (h:P.underlying t=some (.struct fs)) (hf:fs[i]?=some f) (hu:P.underlying f.type=some d) (hd:iD d=false)
  (hx:a.eval x= .agg vs.toArray) (hv:vs[f.offset]?=some v) (hy:af w M κ y v):c6 P a ⟨dst,.field t x i,ty,pos,aft,gd⟩ w M κ y:=
 av (v:=v) (by simp[execOp,Instr.field,hx,run_underlying h,hf,part,lP hu,hd,asAgg,hv]) hy
theorem zl {t:TypeId} {fs:Array Field} {f:Field} {i:Nat} {x:Operand} {d:TypeDesc} {vs:List Value} {y:SV} (h:P.underlying t=some (.struct fs)) (hf:fs[i]?=some f) (hu:P.underlying f.type=some d) (hd:iD d=true) (hi:(P.info? f.type).isSome=true)
  (hx:a.eval x= .agg vs.toArray) (hy:af w M κ y (.agg ((vs.drop f.offset).take (P.cellsOf f.type)).toArray)):c6 P a ⟨dst,.field t x i,ty,pos,aft,gd⟩ w M κ y:=by
 refine av (v:= .agg ((vs.drop f.offset).take (P.cellsOf f.type)).toArray) ?_ hy
 simp[execOp,Instr.field,hx,run_underlying h,hf,part,lP hu,hd,asAgg,cM hi,List.extract_eq_take_drop]
theorem xt {t e:TypeId} {x i:Operand} {k:IntKind} {b o len cap:Nat} {n:Int} {y:SV} (h:P.underlying t=some (.slice e)) (hi:(P.info? e).isSome=true)
  (hx:a.eval x= .slice (some ⟨b,o,none⟩) len cap) (hn:a.eval i= .int k n) (h0:0<=n) (h1:n<len) (hy:af w M κ y (.pointer (some ⟨b,o+n.toNat * P.cellsOf e,none⟩))):
  c6 P a ⟨dst,.indexAddr t x i,ty,pos,aft,gd⟩ w M κ y:=
 av (v:= .pointer (some ⟨b,o+n.toNat * P.cellsOf e,none⟩)) (by simp[execOp,Instr.indexAt,hx,hn,asIntOf,run_underlying h,cM hi,h0,h1,fE]) hy
theorem Ee {t:TypeId} {x i:Operand} {k:IntKind} {l:List UInt8} {n:Int} {c:UInt8} (h:P.underlying t=some .string)
  (hx:a.eval x= .string ⟨l.toArray⟩) (hn:a.eval i= .int k n) (h0:0<=n) (hc:l[n.toNat]?=some c):c6 P a ⟨dst,.index t x i,ty,pos,aft,gd⟩ w M κ (.d (.int .u8 c.toNat)):=by
 have hg:(⟨l.toArray⟩:ByteArray)[n.toNat]?=some c:=by
  obtain⟨hlt,he⟩:=Md.1 hc
  rw[getElem?_pos (⟨l.toArray⟩:ByteArray) n.toNat hlt]
  simp only[L7]
  exact he
 refine av (v:= .int .u8 c.toNat) ?_ (by simp[af,aK])
 simp[execOp,Instr.index,hx,hn,asIntOf,run_underlying h,h0,hg]
theorem E7 (a b:Int):(a==b)=decide (a=b):=by rw[Mp];simp
theorem II (a b:Int):(a !=b)=decide (a≠b):=by rw[Mp];simp
def C1 (P:Program) (t:TypeId) (xo yo:Operand):DV->Prop
 | .bool _=>P.underlying t=some .bool
 | .raw _=>(nU xo=true\/nU yo=true)/\∃ ms,P.underlying t=some (.interface ms)
 | .err=>(nU xo=true\/nU yo=true)/\∃ ms,P.underlying t=some (.interface ms)
 |_=>True
theorem wq (t:TypeId) (hh:P.underlying t=some .bool) (c d:Bool) (n:Nat):(Op.equalIn (n+1) t (.bool c) (.bool d)).run P w= .ok (c==d) w:=by
 rw[Op.equalIn]
 simp[run_underlying hh]
theorem B5 (t:TypeId) {ms:Array (String×TypeId)} (hh:P.underlying t=some (.interface ms)) (n:Nat):(Op.equalIn (n+1) t .nilIface .nilIface).run P w= .ok true w:=by
 rw[Op.equalIn]
 simp[run_underlying hh]
theorem AJ (t:TypeId) {ms:Array (String×TypeId)} (hh:P.underlying t=some (.interface ms)) (n:Nat) (u:TypeId) (v:Value):(Op.equalIn (n+1) t (.iface u v) .nilIface).run P w= .ok false w:=by
 rw[Op.equalIn]
 simp[run_underlying hh]
theorem zm (t:TypeId) (hh:P.underlying t=some .bool) (c d:Bool):(Op.equal t (.bool c) (.bool d)).run P w= .ok (c==d) w:=wq t hh c d 9999
theorem zn (t:TypeId) {ms:Array (String×TypeId)} (hh:P.underlying t=some (.interface ms)):(Op.equal t .nilIface .nilIface).run P w= .ok true w:=B5 t hh 9999
theorem yf (t:TypeId) {ms:Array (String×TypeId)} (hh:P.underlying t=some (.interface ms)) (u:TypeId) (v:Value):(Op.equal t (.iface u v) .nilIface).run P w= .ok false w:=AJ t hh 9999 u v
theorem vA (t:TypeId) {e:TypeId} (hh:P.underlying t=some (.pointer e)) (q:Option Addr):(Op.equal t (.pointer q) (.pointer none)).run P w= .ok q.isNone w:=by
 unfold Op.equal
 rw[show Op.maxDepth=9999+1 from rfl,Op.equalIn]
 cases q<;>simp[run_underlying hh]
theorem G9 {op:BinOp} {t:TypeId} {xo yo:Operand} {x y:DV} {u v:Value} {p:Prop} {r:DV} (ht:C1 P t xo yo x) (hu:aK w M x u) (hv:aK w M y v) (h:yK op x y=some (p,r)) (hp:p):
  ∃ z,(do eqGuard op t xo yo u v;binOp op t u v:Sem Value).run P w= .ok z w/\aK w M r z:=by
 unfold yK at h
 split at h
 ·
  rename_i k m k' n
  simp only[aK] at hu hv
  subst hu hv
  split at h
  ·rename_i hk
   subst hk
   unfold wo at h
   split at h<;>first
    |(simp only[L7,L_] at h;obtain⟨rfl,rfl⟩:=h
      simp[eqGuard,binOp,Op.intArith,Op.intCmp,Op.intDiv,Op.intBits,CX,aK,E7,II,hp];done)
    |(simp only[L7,L_] at h;obtain⟨rfl,rfl⟩:=h
      refine⟨_, ?_,rfl⟩
      simp only[eqGuard,binOp]
      first|rw[Go.shift_shr _ _ _ _ hp.1 hp.2]|rw[Go.shift_shl _ _ _ _ hp.1 hp.2]
      rfl)
    |(cases h;done)
    |skip
  ·split at h
   ·unfold wo at h
    simp only[L7,L_] at h;obtain⟨rfl,rfl⟩:=h
    refine⟨_, ?_,rfl⟩
    simp only[eqGuard,binOp]
    rw[Go.shift_shr _ _ _ _ hp.1 hp.2]
    rfl
   ·unfold wo at h
    simp only[L7,L_] at h;obtain⟨rfl,rfl⟩:=h
    refine⟨_, ?_,rfl⟩
    simp only[eqGuard,binOp]
    rw[Go.shift_shl _ _ _ _ hp.1 hp.2]
    rfl
   ·cases h
 ·
  rename_i m n
  simp only[aK] at hu hv
  subst hu hv
  have hsz:∀ l:List UInt8,(⟨l.toArray⟩:ByteArray).size=l.length:=fun l=>by simp[ByteArray.size]
  have htl:∀ l:List UInt8,(⟨l.toArray⟩:ByteArray).toList=l:=fun l=>by rw[Lib.toList_data]
  have hbq:∀ l k:List UInt8,(l==k)=decide (l=k):=fun l k=>by rw[Mp];simp
  unfold E5 at h
  split at h
  ·simp only[L7,L_] at h;obtain⟨rfl,rfl⟩:=h
   have hno:¬ (((m.length+n.length:Nat):Int)>IntKind.i64.max):=by
    have:IntKind.i64.max=9223372036854775807:=by decide
    omega
   refine⟨.string ⟨(m++n).toArray⟩, ?_,by simp[aK]⟩
   simp only[eqGuard,binOp,Op.stringOp,hsz,NY hno]
   simp
   apply ByteArray.ext
   simp
  all_goals first
   |(simp only[L7,L_] at h;obtain⟨rfl,rfl⟩:=h
     simp[eqGuard,binOp,Op.stringOp,aK,htl,hbq];done)
   |(cases h;done)
 ·rename_i m n
  simp only[aK] at hu hv
  subst hu hv
  have hbb:P.underlying t=some .bool:=ht
  have hbq:∀ c d:Bool,(c==d)=decide (c=d):=fun c d=>by cases c<;>cases d<;>rfl
  split at h
  ·simp only[L7,L_] at h;obtain⟨rfl,rfl⟩:=h
   exact⟨.bool (decide (m=n)),by simp[eqGuard,binOp,zm t hbb,hbq],by simp[aK]⟩
  ·simp only[L7,L_] at h;obtain⟨rfl,rfl⟩:=h
   exact⟨.bool (decide (m≠n)),by simp[eqGuard,binOp,zm t hbb,hbq],by simp[aK]⟩
  ·cases h
 ·simp only[aK] at hu hv
  subst hu hv
  obtain⟨ht,ms,hms⟩:=ht
  have hg:(eqGuard op t xo yo .nilIface .nilIface).run P w= .ok () w:=by
   rcases ht with ht|ht
   ·cases xo<;>simp[nU] at ht
    cases op<;>simp[eqGuard]
   ·cases yo<;>simp[nU] at ht
    cases op<;>simp[eqGuard]
  split at h
  ·simp only[L7,L_] at h;obtain⟨rfl,rfl⟩:=h
   exact⟨.bool true,by simp[hg,binOp,zn t hms],by simp[aK]⟩
  ·simp only[L7,L_] at h;obtain⟨rfl,rfl⟩:=h
   exact⟨.bool false,by simp[hg,binOp,zn t hms],by simp[aK]⟩
  ·cases h
 ·simp only[aK] at hu hv
  obtain⟨tt,uu,rfl⟩:=hu
  subst hv
  obtain⟨ht,ms,hms⟩:=ht
  split at h
  ·simp only[L7,L_] at h;obtain⟨rfl,rfl⟩:=h
   exact⟨.bool false,by simp[eqGuard,binOp,yf t hms],by simp[aK]⟩
  ·simp only[L7,L_] at h;obtain⟨rfl,rfl⟩:=h
   exact⟨.bool true,by simp[eqGuard,binOp,yf t hms],by simp[aK]⟩
  ·cases h
 ·cases h
theorem ra {op:BinOp} {t t2:TypeId} {xo yo:Operand} {x y:DV} {p:Prop} {r:DV} (ht:C1 P t xo yo x) (hu:aK w M x (a.eval xo)) (hv:aK w M y (a.eval yo)) (h:yK op x y=some (p,r)) (hp:p):
  c6 P a ⟨dst,.binOp op t xo yo t2,ty,pos,aft,gd⟩ w M κ (.d r):=by
 obtain⟨z,hz,hr⟩:=G9 ht hu hv h hp
 simp only[Sem.run_bind] at hz
 exact av (v:=z) (by simp only[execOp,Sem.run_bind,hz,Result.andThen_ok,Sem.run_pure]) (by simpa[af] using hr)
theorem F0 {t:TypeId} {x:Operand} {b:Bool} (hx:a.eval x= .bool b):c6 P a ⟨dst,.unOp .not t x,ty,pos,aft,gd⟩ w M κ (.d (.bool !b)):=
 av (v:= .bool !b) (by simp[execOp,Op.unary,hx]) (by simp[af,aK])
theorem F4 {t:TypeId} {x:Operand} {k:IntKind} {n:Int} (hx:a.eval x= .int k n):c6 P a ⟨dst,.unOp .neg t x,ty,pos,aft,gd⟩ w M κ (.d (.int k (k.wrap (0 - n)))):=
 av (v:= .int k (k.wrap (0 - n))) (by simp[execOp,Op.unary,hx,Op.intArith]) (by simp[af,aK])
theorem F5 {s t:TypeId} {x:Operand} {k k':IntKind} {n:Int} (hs:(P.underlying s).isSome=true) (ht:P.underlying t=some (.int k)) (hx:a.eval x= .int k' n):c6 P a ⟨dst,.convert s t x,ty,pos,aft,gd⟩ w M κ (.d (.int k (k.wrap n))):=by
 obtain⟨d',hd'⟩:=MV.mp hs
 exact av (v:= .int k (k.wrap n)) (by simp[execOp,convert,run_underlying hd',run_underlying ht,hx,Conv.intToInt]) (by simp[af,aK])
theorem Ef {s t:TypeId} {x:Operand} {k k':IntKind} {n:Int} (hs:P.underlying s=some (.int k)) (ht:P.underlying t=some .string) (hx:a.eval x= .int k' n):c6 P a ⟨dst,.convert s t x,ty,pos,aft,gd⟩ w M κ (.d (.str (Utf8.encode n).data.toList)):=by
 refine av (v:= .string (Utf8.encode n)) ?_ (by simp only[af,aK])
 have h:=run_convert_int_string (P:=P) w s t k' n (by rw[hs];rfl) ht
 simp only[execOp,hx,Sem.run_bind,h,Result.andThen_ok,Sem.run_pure]
def IJ (w:World) (v:Value) (l:List UInt8):Prop:=∃ ad cap,v= .slice ad l.length cap/\(l=[]\/∃ b o,ad=some ⟨b,o,none⟩/\∀ (j:Nat) (c:UInt8),l[j]?=some c->w.cell? ⟨b,o+j,none⟩=some (.int .u8 c.toNat))
theorem py {s t e:TypeId} {x:Operand} {l:List UInt8} (hs:P.underlying s=some (.slice e)) (he:P.underlying e=some (.int .u8)) (ht:P.underlying t=some .string) (hx:IJ w (a.eval x) l):c6 P a ⟨dst,.convert s t x,ty,pos,aft,gd⟩ w M κ (.d (.str l)):=by
 obtain⟨ad,cap,hv,hl⟩:=hx
 refine av (v:= .string ⟨l.toArray⟩) ?_ (by simp only[af,aK])
 have h:(convert s t (.slice ad l.length cap)).run P w= .ok (.string ⟨l.toArray⟩) w:=by
  rcases hl with rfl|⟨b,o,rfl,hc⟩
  ·rw[Nj,run_convert_bytes_string w s t e ad 0 cap hs he ht]
   cases ad<;>simp[Conv.bytesToString,loadCells]
   all_goals rfl
  ·exact run_convert_bytes_back w s t e ⟨b,o,none⟩ cap l hs he ht (fun j hj=>by
    have:=hc j l[j] (Mi hj)
    have e2:(⟨b,o,none⟩:Addr).add j=⟨b,o+j,none⟩:=by unfold Addr.add;split<;>simp_all
    rw[e2];exact this)
 simp only[execOp,hv,Sem.run_bind,h,Result.andThen_ok,Sem.run_pure]
theorem Eg (hM:∀ b,M b->b<w.heap.size) {s t e:TypeId} {x:Operand} {l:List UInt8} (hs:P.underlying s=some .string) (ht:P.underlying t=some (.slice e)) (he:P.underlying e=some (.int .u8)) (hx:a.eval x= .string ⟨l.toArray⟩):c6 P a ⟨dst,.convert s t x,ty,pos,aft,gd⟩ w M κ (.d (.slice (l.map fun b=>[.int .u8 b.toNat]))):=by
 have h:=run_bytes_of_string (P:=P) w s t e ⟨l.toArray⟩ hs ht he
 have hsz:(⟨l.toArray⟩:ByteArray).size=l.length:=by simp[ByteArray.size]
 rw[hsz] at h
 have hge:=grownCap_ge w l.length 0 e
 refine⟨_,_,by simp only[execOp,hx,Sem.run_bind,h,Result.andThen_ok,Sem.run_pure];rfl,((Below.refl _ _).drew).alloc (Me _) _, ?_⟩
 simp only[af,aK]
 refine⟨some ⟨w.heap.size,0,none⟩,grownCap w l.length 0 e,by simp,by simpa using hge,by simp, ?_⟩
 by_cases hl:l=[]
 ·exact .inl (by simp[hl])
 ·refine .inr ⟨w.heap.size,0,1,rfl,fun hb=>Nat.lt_irrefl _ (hM _ hb),by simp, ?_⟩
  have key:∀ (r:List UInt8) (o:Nat),(∀ (j:Nat) (c:UInt8),r[j]?=some c->(w.drew.alloc (.cells (bytesRow ⟨l.toArray⟩ (grownCap w l.length 0 e)) e ((bytesRow ⟨l.toArray⟩ (grownCap w l.length 0 e)).size,(bytesRow ⟨l.toArray⟩ (grownCap w l.length 0 e)).size+1))).cell? ⟨w.heap.size,o+j,none⟩=some (.int .u8 c.toNat))->
    aL (w.drew.alloc (.cells (bytesRow ⟨l.toArray⟩ (grownCap w l.length 0 e)) e ((bytesRow ⟨l.toArray⟩ (grownCap w l.length 0 e)).size,(bytesRow ⟨l.toArray⟩ (grownCap w l.length 0 e)).size+1))) M (r.map fun b=>[.int .u8 b.toNat]) w.heap.size o 1:=by
   intro r
   induction r with
   |nil=>intro o _;simp only[Nw,aL]
   |cons c r ih=>
    intro o hc
    simp only[Mk,aL,bq]
    refine⟨rfl,⟨⟨.int .u8 c.toNat,by simpa using hc 0 c rfl,rfl,by simp only[aK]⟩,trivial⟩,ih (o+1) fun j d hj=> ?_⟩
    have:=hc (j+1) d (by simpa using hj)
    rwa[show o+(j+1)=o+1+j by omega] at this
  refine key l 0 fun j c hj=> ?_
  have hjl:j<(⟨l.toArray⟩:ByteArray).data.size:=by have:=(Md.1 hj).1;simpa using this
  have hb:=bytesRow_at ⟨l.toArray⟩ (grownCap w l.length 0 e) j hjl
  have hc:(⟨l.toArray⟩:ByteArray).data[j]=c:=by
   have:=Md.1 hj
   obtain⟨h1,h2⟩:=this
   simpa using h2
  rw[hc] at hb
  have hnew:=heap_alloc_new w.drew (.cells (bytesRow ⟨l.toArray⟩ (grownCap w l.length 0 e)) e ((bytesRow ⟨l.toArray⟩ (grownCap w l.length 0 e)).size,(bytesRow ⟨l.toArray⟩ (grownCap w l.length 0 e)).size+1))
  have hnew':(w.drew.alloc (.cells (bytesRow ⟨l.toArray⟩ (grownCap w l.length 0 e)) e ((bytesRow ⟨l.toArray⟩ (grownCap w l.length 0 e)).size,(bytesRow ⟨l.toArray⟩ (grownCap w l.length 0 e)).size+1))).heap[w.heap.size]?=some (.cells (bytesRow ⟨l.toArray⟩ (grownCap w l.length 0 e)) e ((bytesRow ⟨l.toArray⟩ (grownCap w l.length 0 e)).size,(bytesRow ⟨l.toArray⟩ (grownCap w l.length 0 e)).size+1)):=hnew
  unfold World.cell?
  simp only[hnew',M7]
  exact hb
theorem A8 {x:Operand} {i:Nat} {vs:List Value} {v:Value} {y:SV} (hx:a.eval x= .tuple vs.toArray) (hv:vs[i]?=some v) (hy:af w M κ y v):c6 P a ⟨dst,.extract x i,ty,pos,aft,gd⟩ w M κ y:=
 av (v:=v) (by simp[execOp,Instr.extract,hx,hv]) hy
theorem gj (ρ:Operand->Value) (b:Builtin) (args:Array Operand) (ts:Array TypeId):∃ cs,(execOp ρ ⟨dst,.call {callee:= .builtin b,args,argTypes:=ts},ty,pos,aft,gd⟩).run P w=
  (builtin b ts ty cs (args.map ρ)).run P w:=⟨_,by simp only[execOp,resolve,Sem.run_bind,Sem.run_pure,Result.andThen_ok,invoke];rfl⟩
theorem E8 (l:List UInt8):(⟨l.toArray⟩:ByteArray).size=l.length:=by
 show l.toArray.size=_
 simp
theorem iP {t e:TypeId} {x:Operand} {args:Array Operand} {ts:Array TypeId} (ha:args.toList=[x]) (hts:ts.toList=[t]) {b:Option Addr} {n c:Nat} (ht:P.underlying t=some (.slice e)) (hx:a.eval x= .slice b n c):
  c6 P a ⟨dst,.call {callee:= .builtin .len,args,argTypes:=ts},ty,pos,aft,gd⟩ w M κ (.d (.int .i64 n)):=by
 have e1:args= #[x]:=by rw[<-MR];exact ha
 have e2:ts= #[t]:=by rw[<-MR];exact hts
 subst e1 e2
 exact av (v:= .int .i64 n) (by obtain⟨cs,hcs⟩:=gj (P:=P) (w:=w) (dst:=dst) (ty:=ty) (pos:=pos) (aft:=aft) (gd:=gd) a.eval .len #[x] #[t];rw[hcs];simp[builtin,Builtin.len_,run_underlying ht,hx,goInt]) (by simp[af,aK])
theorem AK {t:TypeId} {x:Operand} {args:Array Operand} {ts:Array TypeId} (ha:args.toList=[x]) (hts:ts.toList=[t]) {l:List UInt8} (ht:P.underlying t=some .string) (hx:a.eval x= .string ⟨l.toArray⟩):
  c6 P a ⟨dst,.call {callee:= .builtin .len,args,argTypes:=ts},ty,pos,aft,gd⟩ w M κ (.d (.int .i64 l.length)):=by
 have e1:args= #[x]:=by rw[<-MR];exact ha
 have e2:ts= #[t]:=by rw[<-MR];exact hts
 subst e1 e2
 exact av (v:= .int .i64 l.length) (by obtain⟨cs,hcs⟩:=gj (P:=P) (w:=w) (dst:=dst) (ty:=ty) (pos:=pos) (aft:=aft) (gd:=gd) a.eval .len #[x] #[t];rw[hcs];simp[builtin,Builtin.len_,run_underlying ht,hx,goInt,E8]) (by simp[af,aK])
theorem AL {t k e:TypeId} {x:Operand} {args:Array Operand} {ts:Array TypeId} (ha:args.toList=[x]) (hts:ts.toList=[t]) {r clock:Nat} {es:List MapEntry} (ht:P.underlying t=some (.map k e)) (hx:a.eval x= .map (some r)) (hr:w.heap[r]?=some (.map es.toArray clock)):
  c6 P a ⟨dst,.call {callee:= .builtin .len,args,argTypes:=ts},ty,pos,aft,gd⟩ w M κ (.d (.int .i64 es.length)):=by
 have e1:args= #[x]:=by rw[<-MR];exact ha
 have e2:ts= #[t]:=by rw[<-MR];exact hts
 subst e1 e2
 exact av (v:= .int .i64 es.length) (by obtain⟨cs,hcs⟩:=gj (P:=P) (w:=w) (dst:=dst) (ty:=ty) (pos:=pos) (aft:=aft) (gd:=gd) a.eval .len #[x] #[t];rw[hcs];simp[builtin,Builtin.len_,run_underlying ht,hx,goInt,getObj,Sem.run,hr]) (by simp[af,aK])
theorem yg:∀ (l:List DV) (vs:List Value) (m r:Int),aB w M l vs->rG m l=some r->(vs.foldlM Builtin.min2 (.int .i64 m)).run P w= .ok (.int .i64 r) w
 |[],vs,m,r,hl,h=>by
  unfold aB at hl;subst hl
  simp only[rG,L7] at h;subst h;rfl
 |x::l,vs,m,r,hl,h=>by
  unfold aB at hl
  obtain⟨u,us,rfl,h1,h2⟩:=hl
  unfold rG at h
  split at h
  ·cases ‹_::_=_›
  ·rename_i heq
   simp only[MG] at heq
   obtain⟨rfl,rfl⟩:=heq
   simp only[aK] at h1
   subst h1
   simp only[List.foldlM_cons,Builtin.min2,pure_bind]
   exact yg _ _ _ _ h2 h
  ·cases h
theorem yh:∀ (l:List DV) (vs:List Value) (m r:Int),aB w M l vs->rH m l=some r->(vs.foldlM Builtin.max2 (.int .i64 m)).run P w= .ok (.int .i64 r) w
 |[],vs,m,r,hl,h=>by
  unfold aB at hl;subst hl
  simp only[rH,L7] at h;subst h;rfl
 |x::l,vs,m,r,hl,h=>by
  unfold aB at hl
  obtain⟨u,us,rfl,h1,h2⟩:=hl
  unfold rH at h
  split at h
  ·cases ‹_::_=_›
  ·rename_i heq
   simp only[MG] at heq
   obtain⟨rfl,rfl⟩:=heq
   simp only[aK] at h1
   subst h1
   simp only[List.foldlM_cons,Builtin.max2,pure_bind]
   exact yh _ _ _ _ h2 h
  ·cases h
theorem Eh {args:Array Operand} {ts:Array TypeId} {x:Operand} {xs:List Operand} (ha:args.toList=x::xs) {m r:Int} {l:List DV} (hx:a.eval x= .int .i64 m) (hl:aB w M l (xs.map a.eval)) (h:rG m l=some r):
  c6 P a ⟨dst,.call {callee:= .builtin .min,args,argTypes:=ts},ty,pos,aft,gd⟩ w M κ (.d (.int .i64 r)):=by
 refine av (v:= .int .i64 r) ?_ (by simp[af,aK])
 have:=yg (P:=P) l _ m r hl h
 obtain⟨cs,hcs⟩:=gj (P:=P) (w:=w) (dst:=dst) (ty:=ty) (pos:=pos) (aft:=aft) (gd:=gd) a.eval .min args ts
 rw[hcs]
 simp only[builtin,Builtin.min_,Array.toList_map,ha,Mk,hx,Sem.run_bind,this,Result.andThen_ok,Sem.run_pure]
theorem Ei {args:Array Operand} {ts:Array TypeId} {x:Operand} {xs:List Operand} (ha:args.toList=x::xs) {m r:Int} {l:List DV} (hx:a.eval x= .int .i64 m) (hl:aB w M l (xs.map a.eval)) (h:rH m l=some r):
  c6 P a ⟨dst,.call {callee:= .builtin .max,args,argTypes:=ts},ty,pos,aft,gd⟩ w M κ (.d (.int .i64 r)):=by
 refine av (v:= .int .i64 r) ?_ (by simp[af,aK])
 have:=yh (P:=P) l _ m r hl h
 obtain⟨cs,hcs⟩:=gj (P:=P) (w:=w) (dst:=dst) (ty:=ty) (pos:=pos) (aft:=aft) (gd:=gd) a.eval .max args ts
 rw[hcs]
 simp only[builtin,Builtin.max_,Array.toList_map,ha,Mk,hx,Sem.run_bind,this,Result.andThen_ok,Sem.run_pure]
theorem C2 {f:FuncId} {first caps:Array Operand} (h0:first.size=0) {ids:List Nat} (hl:caps.toList.map a.eval=ids.map κ) (hb:∀ i∈ids,∃ b,κ i= .pointer (some ⟨b,0,none⟩)):c6 P a ⟨dst,.makeFunc (.func f) first caps,ty,pos,aft,gd⟩ w M κ (.clo f ids):=by
 have h0':first= #[]:=Array.size_eq_zero_iff.1 h0
 subst h0'
 refine av (v:= .func (.func f) #[] (ids.map κ).toArray) ?_ (by simp only[af,true_and];exact hb)
 rw[<-hl]
 have e:caps.map a.eval=(caps.toList.map a.eval).toArray:=by rw[<-MR];simp
 simp[execOp,Instr.makeFunc,e]
theorem Ej {f:FuncId} {first caps:Array Operand} (h0:first.size=0) {l:List DV} (hl:aB w M l (caps.toList.map a.eval)):c6 P a ⟨dst,.makeFunc (.func f) first caps,ty,pos,aft,gd⟩ w M κ (.d (.fn f l)):=by
 have e1:first= #[]:=by simpa using h0
 subst e1
 refine av (v:= .func (.func f) #[] (caps.toList.map a.eval).toArray) ?_ (by simp only[af,aK];exact⟨_,rfl,hl⟩)
 have e:caps.map a.eval=(caps.toList.map a.eval).toArray:=by rw[<-MR];simp
 simp[execOp,Instr.makeFunc,e]
theorem xu (a b:List UInt8):((⟨a.toArray⟩:ByteArray)==⟨b.toArray⟩)=decide (a=b):=by
 show ByteArray.beq _ _=_
 rw[Mp]
 simp[ByteArray.beq]
theorem A9 {kk:KK} {x:DV} {v:Value} (hf:kk.fits x=true) (hr:aK w M x v):cH x=some v:=by
 cases kk<;>cases x<;>simp[KK.fits] at hf<;>simp only[aK] at hr<;>subst hr<;>rfl
def KK.desc:KK->TypeDesc
 | .str=> .string
 | .int k=> .int k
 | .bool=> .bool
theorem rb {t:TypeId} {kk:KK} (h:AH P t=some kk):P.underlying t=some kk.desc:=by
 unfold AH at h
 split at h<;>simp at h<;>subst h<;>simpa[KK.desc]
theorem wt {kk:KK} {x k:DV} {vx vk:Value} (h1:kk.fits x=true) (h2:kk.fits k=true) (h3:cH x=some vx) (h4:cH k=some vk):Instr.sameNow kk.desc vx vk=some (ss x k):=by
 cases kk with
 |str=>
  cases x<;>simp[KK.fits] at h1
  cases k<;>simp[KK.fits] at h2
  rename_i a b
  simp[cH] at h3 h4
  subst h3 h4
  simp only[Instr.sameNow,KK.desc,ss,L7]
  exact xu a b
 |int q=>
  cases x<;>simp[KK.fits] at h1
  cases k<;>simp[KK.fits] at h2
  rename_i a b
  simp[cH] at h3 h4
  subst h1 h2 h3 h4
  simp only[Instr.sameNow,KK.desc,ss,Nr,L7]
  rw[Mp]
  simp
 |bool=>
  cases x<;>simp[KK.fits] at h1
  cases k<;>simp[KK.fits] at h2
  rename_i a b
  simp[cH] at h3 h4
  subst h3 h4
  simp only[Instr.sameNow,KK.desc,ss,L7]
  cases a<;>cases b<;>rfl
theorem xv {kk:KK} {x:DV} {vx:Value} (h1:kk.fits x=true) (h3:cH x=some vx):∀ {kv:List (DV×SV)} {es:List MapEntry} {F:List Nat} (i:Nat),bn w M κ kk kv es F->lM kv x=none->Instr.findNow kk.desc vx es i=some none
 |[],es,F,i,hm,_=>by unfold bn at hm;obtain⟨rfl,_⟩:=hm;rfl
 |(k,d)::kv,es,F,i,hm,hg=>by
  unfold bn at hm
  obtain⟨e,rest,F1,F2,rfl,_,h2,h4,hv,hm⟩:=hm
  simp only[lM] at hg
  split at hg
  ·cases hg
  ·rename_i hne
   simp only[Nx] at hne
   simp only[Instr.findNow,wt h1 h2 h3 h4,hne]
   exact xv h1 h3 (i+1) hm hg
theorem xw {kk:KK} {x:DV} {d:SV} {vx:Value} (h1:kk.fits x=true) (h3:cH x=some vx):∀ {kv:List (DV×SV)} {es:List MapEntry} {F:List Nat} (i:Nat),bn w M κ kk kv es F->lM kv x=some d->
  ∃ j e Fa Fe Fb,es[j]?=some e/\Instr.findNow kk.desc vx es i=some (some (i+j,e.val))/\F=Fa++Fe++Fb/\aQ w M κ d e.val Fe/\e.key=vx/\
   ∀ (d':SV) (v':Value) (G:List Nat),aQ w M κ d' v' G->bn w M κ kk (iO kv x d') (es.modify j fun e=>{e with key:=vx,val:=v'}) (Fa++G++Fb)
 |[],es,F,i,hm,hg=>by simp[lM] at hg
 |(k,d0)::kv,es,F,i,hm,hg=>by
  unfold bn at hm
  obtain⟨e,rest,F1,F2,rfl,rfl,h2,h4,hv,hm⟩:=hm
  simp only[lM] at hg
  have hsn:=wt h1 h2 h3 h4
  split at hg
  ·rename_i heq
   simp only[L7] at hg;subst hg
   have hkey:e.key=vx:=by
    have:cH x=cH k:=by
     cases x<;>cases k<;>simp_all [ss,cH]
    rw[this,h4] at h3;simpa using h3
   refine⟨0,e,[],F1,F2,by simp,by simp[Instr.findNow,hsn,heq],by simp,hv,hkey,fun d' v' G hr=> ?_⟩
   simp only[iO,heq,Nr,List.modify_zero_cons]
   unfold bn
   exact⟨_,rest,G,F2,rfl,by simp,h1,h3,hr,hm⟩
  ·rename_i hne
   simp only[Nx] at hne
   obtain⟨j,e',Fa,Fe,Fb,g1,g2,rfl,g3,g4,g5⟩:=xw h1 h3 (i+1) hm hg
   refine⟨j+1,e',F1++Fa,Fe,Fb,by simpa using g1, ?_,by simp,g3,g4,fun d' v' G hr=> ?_⟩
   ·simp only[Instr.findNow,hsn,hne,g2]
    rw[show i+1+j=i+(j+1) by omega]
   ·simp only[iO,hne,My,MZ,List.modify_succ_cons]
    unfold bn
    exact⟨e,_,F1,Fa++G++Fb,rfl,by simp,h2,h4,hv,g5 d' v' G hr⟩
theorem C3 {kk:KK} {x:DV} {vx:Value} (h1:kk.fits x=true) (h3:cH x=some vx) {b:Nat}:∀ {kv:List (DV×SV)} {es:List MapEntry} {F:List Nat},bn w M κ kk kv es F->lM kv x=none->∀ (d':SV) (v':Value) (G:List Nat),aQ w M κ d' v' G->bn w M κ kk (iO kv x d') (es++[{key:=vx,val:=v',born:=b}]) (F++G)
 |[],es,F,hm,_,d',v',G,hr=>by
  unfold bn at hm;obtain⟨rfl,rfl⟩:=hm
  simp only[iO,Mq]
  unfold bn
  exact⟨_,[],G,[],rfl,by simp,h1,h3,hr,by unfold bn;exact⟨rfl,rfl⟩⟩
 |(k,d)::kv,es,F,hm,hg,d',v',G,hr=>by
  unfold bn at hm
  obtain⟨e,rest,F1,F2,rfl,rfl,h2,h4,hv,hm⟩:=hm
  simp only[lM] at hg
  split at hg
  ·cases hg
  ·rename_i hne
   simp only[Nx] at hne
   simp only[iO,hne,My,MZ,Mn]
   unfold bn
   exact⟨e,_,F1,F2++G,rfl,by simp,h2,h4,hv,C3 h1 h3 hm hg d' v' G hr⟩
theorem pz {b:Bool} {t:TypeId} {kk:KK} (h:P.underlying t=some kk.desc) (v:Value) (n:Nat):(Instr.checkKey b (n+1) t v).run P w= .ok () w:=by
 rw[Instr.checkKey]
 cases kk<;>simp[run_underlying h,KK.desc]
theorem tf {t:TypeId} {kk:KK} (h:P.underlying t=some kk.desc) {vx:Value} {es:List MapEntry} {r:Option (Nat×Value)} (hf:Instr.findNow kk.desc vx es 0=some r):(Instr.findKey t vx es).run P w= .ok r w:=by
 simp[Instr.findKey,run_underlying h,hf]
theorem A_ {e:TypeId} {z:SV} (h:CY P e z=true):∃ v,(zeroValue e).run P w= .ok v w/\af w M κ z v:=by
 unfold CY at h
 split at h
 ·rename_i i hi
  cases hz:i.zero with
  |none=>simp[hz] at h
  |some v=>
   rw[hz] at h
   exact⟨v,by simp[zeroValue,typeInfo,hi,hz],nT h⟩
 ·cases h
theorem zo {t kt e:TypeId} {x i:Operand} {kk:KK} {z:SV} {d:DV} {ok:Bool} {r clock:Nat} {es:List MapEntry} {kv:List (DV×SV)} {F:List Nat} (ht:P.underlying t=some (.map kt e)) (hk:AH P kt=some kk) (hz:CY P e z=true)
  (hx:a.eval x= .map (some r)) (hr:w.heap[r]?=some (.map es.toArray clock)) (hm:bn w M κ kk kv es F) (hf:kk.fits d=true) (hno:(lN kv d z).noOwn=true) (hd:aK w M d (a.eval i)):
  c6 P a ⟨dst,.lookup t x i ok,ty,pos,aft,gd⟩ w M κ (if ok then .tup [lN kv d z,.d (.bool (zg kv d))] else lN kv d z):=by
 have hkd:=rb hk
 have hkv:=A9 hf hd
 have hck:∀ b,(Instr.checkKey b 10000 kt (a.eval i)).run P w= .ok () w:=fun b=>pz hkd _ 9999
 have hgo:(getObj r).run P w= .ok (.map es.toArray clock) w:=by simp[getObj,Sem.run,hr]
 have wrapup:∀ (dv:SV) (u:Value) (b:Bool),af w M κ dv u->af w M κ (if ok then .tup [dv,.d (.bool b)] else dv) (if ok then Value.tuple #[u,.bool b] else u):=fun dv u b hu=>by
  cases ok with
  |false=>simpa using hu
  |true=>
   simp only[Nr,af,aK,aj]
   exact⟨[u,.bool b],rfl,u,[.bool b],rfl,hu,.bool b,[],rfl,rfl,rfl⟩
 cases hg:lM kv d with
 |none=>
  obtain⟨zv,hzv,hzr⟩:=A_ (w:=w) (M:=M) (κ:=κ) hz
  have hfn:=tf (P:=P) (w:=w) hkd (xv hf hkv 0 hm hg)
  simp only[lN,zg,hg,Nf,Option.isSome_none]
  refine av (v:=if ok then Value.tuple #[zv,.bool false] else zv) ?_ (wrapup z zv false hzr)
  simp only[execOp,Instr.lookup,Sem.run_bind,run_underlying ht,Result.andThen_ok,hx,hgo,Sem.run_pure,hck,hfn,hzv]
 |some d'=>
  obtain⟨j,e',_,_,_,_,g2,_,g3,_,_⟩:=xw hf hkv 0 hm hg
  have hfn:=tf (P:=P) (w:=w) hkd g2
  simp only[lN,zg,hg,MO,Option.isSome_some] at hno⊢
  refine av (v:=if ok then Value.tuple #[e'.val,.bool true] else e'.val) ?_ (wrapup d' e'.val true (aQ.to_S _ _ _ hno g3).1)
  simp only[execOp,Instr.lookup,Sem.run_bind,run_underlying ht,Result.andThen_ok,hx,hgo,Sem.run_pure,hck,hfn]
theorem C4 {t kt e:TypeId} {x i:Operand} {kk:KK} {z:SV} {d:DV} {ok:Bool} (ht:P.underlying t=some (.map kt e)) (hk:AH P kt=some kk) (hz:CY P e z=true)
  (hx:a.eval x= .map none) (hf:kk.fits d=true) (hd:aK w M d (a.eval i)):
  c6 P a ⟨dst,.lookup t x i ok,ty,pos,aft,gd⟩ w M κ (if ok then .tup [lN [] d z,.d (.bool (zg [] d))] else lN [] d z):=by
 have hkd:=rb hk
 have hck:∀ b,(Instr.checkKey b 10000 kt (a.eval i)).run P w= .ok () w:=fun b=>pz hkd _ 9999
 obtain⟨zv,hzv,hzr⟩:=A_ (w:=w) (M:=M) (κ:=κ) hz
 refine av (v:=if ok then Value.tuple #[zv,.bool false] else zv) ?_ ?_
 ·have hfn:(Instr.findKey kt (a.eval i) []).run P w= .ok none w:=tf hkd rfl
  simp only[execOp,Instr.lookup,Sem.run_bind,run_underlying ht,Result.andThen_ok,hx,Sem.run_pure,hck,hfn,hzv]
 ·rw[show lN [] d z=z from rfl,show zg [] d=false from rfl]
  cases ok with
  |false=>simpa using hzr
  |true=>
   simp only[Nr,af,aK,aj]
   exact⟨[zv,.bool false],rfl,zv,[.bool false],rfl,hzr,.bool false,[],rfl,rfl,rfl⟩
theorem Ba {kk:KK}:∀ {ks vs:List DV} {es:List MapEntry},ks.all kk.fits=true->nR ks vs es->bn w M κ kk (ks.zip (vs.map .d)) es []
 |[],[],[],_,_=>by simp[bn]
 |k::ks,v::vs,e::es,hf,h=>by
  simp only[nR] at h
  simp only[NL,L9] at hf
  simp only[Mk,NM]
  unfold bn
  refine⟨e,es,[],[],rfl,rfl,hf.1,h.1, ?_,Ba hf.2 h.2.2⟩
  have:=h.2.1
  cases v<;>simp[cH] at this<;>(rw[<-this];unfold aQ af aK;exact⟨rfl,rfl⟩)
 |[],_::_,_,_,h=>by simp[nR] at h
 |[],[],_::_,_,h=>by simp[nR] at h
 |_::_,[],_,_,h=>by simp[nR] at h
 |_::_,_::_,[],_,h=>by simp[nR] at h
theorem zp {t:TypeId} {kk:KK} {x y:DV} {u v:Value} {b:Bool} (ht:P.underlying t=some kk.desc) (hu:aK w M x u) (hv:aK w M y v) (h:pf kk x y=some b) (d:Nat):(Op.equalIn (d+1) t u v).run P w= .ok b w:=by
 cases kk with
 |str=>
  cases x<;>simp[pf] at h
  cases y<;>simp[pf] at h
  simp only[aK] at hu hv
  subst hu hv h
  rw[Op.equalIn]
  simp only[Sem.run_bind,run_underlying ht,Result.andThen_ok,KK.desc,Sem.run_pure,xu]
 |int k=>
  cases x<;>simp[pf] at h
  cases y<;>simp[pf] at h
  obtain⟨⟨rfl,rfl⟩,h⟩:=h
  simp only[aK] at hu hv
  subst hu hv h
  rw[Op.equalIn]
  simp[run_underlying ht,KK.desc,E7]
 |bool=>
  cases x<;>simp[pf] at h
  cases y<;>simp[pf] at h
  rename_i p q
  simp only[aK] at hu hv
  subst hu hv h
  rw[wq t ht]
  cases p<;>cases q<;>rfl
theorem yX {t:TypeId} {kk:KK} {vs:List Value} {o:Nat} {v:Value} (ht:P.underlying t=some kk.desc) (hv:vs[o]?=some v):(part t vs.toArray o).run P w= .ok v w:=by
 have:iD kk.desc=false:=by cases kk<;>rfl
 simp[part,lP ht,this,hv]
theorem Bb (d:Nat) {vs us:List Value} (i1:∀ f:Field,Decidable (f.name= "_")) (i2:∀ x:Bool,Decidable (x=false)):∀ {fs:List Field} {kks:List KK} {k:Nat} {cs ds:List DV} {b:Bool},zh P k fs kks=true->aB w M cs (vs.drop k)->aB w M ds (us.drop k)->bV kks cs ds=some b->
  (forIn fs ((none:Option Bool),()) (fun(f:Field) (__s:Option Bool×Unit)=>
      @ite _ (f.name= "_") (i1 f) (pure (ForInStep.yield (none,())):Sem (ForInStep (Option Bool×Unit)))<|do
       let __do_lift <-part f.type vs.toArray f.offset
       let __do_lift_1 <-part f.type us.toArray f.offset
       let __do_lift <-Op.equalIn (d+1) f.type __do_lift __do_lift_1
       @ite _ (__do_lift=false) (i2 __do_lift) (pure (ForInStep.done (some false,()))) (pure (ForInStep.yield (none,()))))).run P w= .ok ((if b then none else some false),()) w
 |[],[],k,cs,ds,b,hf,hc,hd,he=>by
  cases cs with
  |nil=>cases ds with
   |nil=>simp[bV] at he;subst he;simp
   |cons _ _=>simp[bV] at he
  |cons _ _=>simp[bV] at he
 |f::fs,kk::kks,k,cs,ds,b,hf,hc,hd,he=>by
  simp only[zh,L9,Mc,bne_iff_ne] at hf
  obtain⟨⟨⟨rfl,hname⟩,hkk⟩,hf⟩:=hf
  have ht:=rb hkk
  cases cs with
  |nil=>simp[bV] at he
  |cons c cs=>
   cases ds with
   |nil=>simp[bV] at he
   |cons e ds=>
    simp only[bV] at he
    split at he
    ·rename_i p q hp hq
     simp only[L7] at he
     subst he
     unfold aB at hc hd
     obtain⟨v,vs',hv,hcv,hc⟩:=hc
     obtain⟨u,us',hu,hdu,hd⟩:=hd
     have hv0:vs[f.offset]?=some v:=by
      have:=congrArg (fun l:List Value=>l[0]?) hv
      simpa[M8] using this
     have hu0:us[f.offset]?=some u:=by
      have:=congrArg (fun l:List Value=>l[0]?) hu
      simpa[M8] using this
     have hv1:vs.drop (f.offset+1)=vs':=by rw[<-Ns,hv];rfl
     have hu1:us.drop (f.offset+1)=us':=by rw[<-Ns,hu];rfl
     have heq:=zp (P:=P) (w:=w) (M:=M) ht hcv hdu hp d
     have ih:=Bb d i1 i2 (vs:=vs) (us:=us) hf (by rw[hv1];exact hc) (by rw[hu1];exact hd) hq
     simp only[List.forIn_cons,NY hname,Sem.run_bind,yX ht hv0,yX ht hu0,Result.andThen_ok,heq]
     cases p with
     |false=>simp
     |true=>
      simp only[NC,MZ,Sem.run_pure,Result.andThen_ok,ih,Mj]
    ·cases he
 |[],_::_,k,cs,ds,b,hf,_,_,_=>by simp[zh] at hf
 |_::_,[],k,cs,ds,b,hf,_,_,_=>by simp[zh] at hf
theorem yL (d:Nat) {t:TypeId} {fs:Array Field} {kks:List KK} {cs ds:List DV} {vs us:List Value} {b:Bool} (ht:P.underlying t=some (.struct fs)) (hs:P.stoodInHeld t=false) (hf:zh P 0 fs.toList kks=true) (hc:aB w M cs vs) (hd:aB w M ds us) (he:bV kks cs ds=some b):
  (Op.equalIn (d+1+1) t (.agg vs.toArray) (.agg us.toArray)).run P w= .ok b w:=by
 rw[Op.equalIn]
 simp only[Sem.run_bind,run_underlying ht,Result.andThen_ok,program,Sem.run,hs]
 simp only[My,MZ,ne_eq,ite_not,M2,pure_bind]
 rw[<-Array.forIn_toList]
 have key:=fun i1 i2=>Bb (P:=P) (w:=w) (M:=M) d i1 i2 (vs:=vs) (us:=us) hf (by simpa using hc) (by simpa using hd) he
 simp only[Sem.run_bind]
 rw[key]
 cases b<;>rfl
theorem IK {t:TypeId} {fs:Array Field} {vs:List Value} {o n:Nat} (ht:P.underlying t=some (.struct fs)) (hi:(P.info? t).isSome=true) (hn:P.cellsOf t=n):(part t vs.toArray o).run P w= .ok (.agg ((vs.drop o).take n).toArray) w:=by
 simp[part,lP ht,iD,cM hi,hn,List.extract_eq_take_drop]
theorem wu:∀ (n:Nat) {kks:List KK} {cs ds:List DV} {b:Bool},n<=kks.length->bV kks cs ds=some b->∃ p q,bV (kks.take n) (cs.take n) (ds.take n)=some p/\bV (kks.drop n) (cs.drop n) (ds.drop n)=some q/\b=(p&&q)
 |0,kks,cs,ds,b,_,h=>⟨true,b,by simp[bV],by simpa using h,by simp⟩
 |n+1,[],_,_,_,hn,_=>by simp at hn
 |n+1,kk::kks,[],ds,b,_,h=>by cases ds<;>simp[bV] at h
 |n+1,kk::kks,c::cs,[],b,_,h=>by simp[bV] at h
 |n+1,kk::kks,c::cs,d::ds,b,hn,h=>by
  simp only[bV] at h
  split at h
  ·rename_i p q hp hq
   simp only[L7] at h
   obtain⟨p',q',h1,h2,h3⟩:=wu n (by simpa using hn) hq
   refine⟨p&&p',q', ?_,by simpa using h2, ?_⟩
   ·simp only[NJ,bV,hp,h1]
   ·rw[<-h,h3,Bool.and_assoc]
  ·cases h
theorem vB (d:Nat) {vs us:List Value} (i1:∀ f:Field,Decidable (f.name= "_")) (i2:∀ x:Bool,Decidable (x=false)):∀ {fs:List Field} {kks:List KK} {k:Nat} {cs ds:List DV} {b:Bool},yd P k fs kks=true->aB w M cs (vs.drop k)->aB w M ds (us.drop k)->bV kks cs ds=some b->
  (forIn fs ((none:Option Bool),()) (fun(f:Field) (__s:Option Bool×Unit)=>
      @ite _ (f.name= "_") (i1 f) (pure (ForInStep.yield (none,())):Sem (ForInStep (Option Bool×Unit)))<|do
       let __do_lift <-part f.type vs.toArray f.offset
       let __do_lift_1 <-part f.type us.toArray f.offset
       let __do_lift <-Op.equalIn (d+1+1) f.type __do_lift __do_lift_1
       @ite _ (__do_lift=false) (i2 __do_lift) (pure (ForInStep.done (some false,()))) (pure (ForInStep.yield (none,()))))).run P w= .ok ((if b then none else some false),()) w
 |[],[],k,cs,ds,b,hf,hc,hd,he=>by
  cases cs with
  |nil=>cases ds with
   |nil=>simp[bV] at he;subst he;simp
   |cons _ _=>simp[bV] at he
  |cons _ _=>simp[bV] at he
 |[],_::_,k,cs,ds,b,hf,_,_,_=>by simp[yd] at hf
 |f::fs,kks,k,cs,ds,b,hf,hc,hd,he=>by
  unfold yd at hf
  simp only[L9,Mc,bne_iff_ne] at hf
  obtain⟨⟨rfl,hname⟩,hf⟩:=hf
  split at hf
  ·rename_i gs ht
   simp only[L9,M2,Ma,Mc] at hf
   obtain⟨⟨⟨⟨⟨hs,hfl⟩,hi⟩,hsz⟩,hle⟩,hf⟩:=hf
   obtain⟨p,q,e1,e2,rfl⟩:=wu gs.size hle he
   obtain⟨c1,c2⟩:=aB.cut gs.size hc
   obtain⟨d1,d2⟩:=aB.cut gs.size hd
   rw[Ns] at c2 d2
   have heq:=yL (P:=P) (w:=w) (M:=M) d ht hs hfl c1 d1 e1
   have ih:=vB d i1 i2 (vs:=vs) (us:=us) hf c2 d2 e2
   simp only[List.forIn_cons,NY hname,Sem.run_bind,IK ht hi hsz,Result.andThen_ok,heq]
   cases p with
   |false=>simp
   |true=>
    simp only[NC,MZ,Sem.run_pure,Result.andThen_ok,ih,Mj]
  ·split at hf
   ·rename_i kk kks'
    simp only[L9,Mc] at hf
    obtain⟨hkk,hf⟩:=hf
    have ht:=rb hkk
    cases cs with
    |nil=>simp[bV] at he
    |cons c cs=>
     cases ds with
     |nil=>simp[bV] at he
     |cons e ds=>
      simp only[bV] at he
      split at he
      ·rename_i p q hp hq
       simp only[L7] at he
       subst he
       unfold aB at hc hd
       obtain⟨v,vs',hv,hcv,hc⟩:=hc
       obtain⟨u,us',hu,hdu,hd⟩:=hd
       have hv0:vs[f.offset]?=some v:=by
        have:=congrArg (fun l:List Value=>l[0]?) hv
        simpa[M8] using this
       have hu0:us[f.offset]?=some u:=by
        have:=congrArg (fun l:List Value=>l[0]?) hu
        simpa[M8] using this
       have hv1:vs.drop (f.offset+1)=vs':=by rw[<-Ns,hv];rfl
       have hu1:us.drop (f.offset+1)=us':=by rw[<-Ns,hu];rfl
       have heq:=zp (P:=P) (w:=w) (M:=M) ht hcv hdu hp (d+1)
       have ih:=vB d i1 i2 (vs:=vs) (us:=us) hf (by rw[hv1];exact hc) (by rw[hu1];exact hd) hq
       simp only[List.forIn_cons,NY hname,Sem.run_bind,yX ht hv0,yX ht hu0,Result.andThen_ok,heq]
       cases p with
       |false=>simp
       |true=>
        simp only[NC,MZ,Sem.run_pure,Result.andThen_ok,ih,Mj]
      ·cases he
   ·cases hf
theorem AM {t:TypeId} {fs:Array Field} {kks:List KK} {cs ds:List DV} {vs us:List Value} {b:Bool} (ht:P.underlying t=some (.struct fs)) (hs:P.stoodInHeld t=false) (hf:yd P 0 fs.toList kks=true) (hc:aB w M cs vs) (hd:aB w M ds us) (he:bV kks cs ds=some b):
  (Op.equal t (.agg vs.toArray) (.agg us.toArray)).run P w= .ok b w:=by
 unfold Op.equal
 rw[show Op.maxDepth=9997+1+1+1 from rfl,Op.equalIn]
 simp only[Sem.run_bind,run_underlying ht,Result.andThen_ok,program,Sem.run,hs]
 simp only[My,MZ,ne_eq,ite_not,M2,pure_bind]
 rw[<-Array.forIn_toList]
 have key:=fun i1 i2=>vB (P:=P) (w:=w) (M:=M) 9997 i1 i2 (vs:=vs) (us:=us) hf (by simpa using hc) (by simpa using hd) he
 simp only[Sem.run_bind]
 rw[key]
 cases b<;>rfl
theorem Bc {op:BinOp} {t t2:TypeId} {xo yo:Operand} {fs:Array Field} {kks:List KK} {cs ds:List DV} {b:Bool} (ht:P.underlying t=some (.struct fs)) (hs:P.stoodInHeld t=false) (hg:P.eqGuardType P.depth t=false) (hf:yd P 0 fs.toList kks=true)
  (hx:aK w M (.agg cs) (a.eval xo)) (hy:aK w M (.agg ds) (a.eval yo)) (he:bV kks cs ds=some b) (hop:op= .eql\/op= .neq):
  c6 P a ⟨dst,.binOp op t xo yo t2,ty,pos,aft,gd⟩ w M κ (.d (.bool (match op with| .eql=>b|_=> !b))):=by
 unfold aK at hx hy
 obtain⟨vs,hvx,_,hvs⟩:=hx
 obtain⟨us,hvy,_,hus⟩:=hy
 have heq:=AM (P:=P) ht hs hf hvs hus he
 have hgd:(eqGuard op t xo yo (.agg vs.toArray) (.agg us.toArray)).run P w= .ok () w:=by
  rcases hop with rfl|rfl<;>simp[eqGuard,program,Sem.run,hg]
 rcases hop with rfl|rfl
 ·exact av (v:= .bool b) (by simp only[execOp,hvx,hvy,Sem.run_bind,hgd,Result.andThen_ok,binOp,heq,Sem.run_pure]) (by simp[af,aK])
 ·exact av (v:= .bool !b) (by simp only[execOp,hvx,hvy,Sem.run_bind,hgd,Result.andThen_ok,binOp,heq,Sem.run_pure]) (by simp[af,aK])
end
