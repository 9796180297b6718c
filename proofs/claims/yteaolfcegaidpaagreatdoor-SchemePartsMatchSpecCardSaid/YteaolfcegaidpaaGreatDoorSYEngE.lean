/-
  My text.
-/
import Derived.Test.YteaolfcegaidpaaGreatDoorSYEngD
import Derived.Lib.Strings
import Derived.Laws.BytesArg
import Derived.Laws.Runes
import Derived.Laws.IdiomStrings
namespace Go.Proofs.YteaolfcegaidpaaGreatDoor
set_option linter.unusedSimpArgs false
set_option linter.unusedVariables false
open Go.RowKit
def d6 (P:Program) (a:Act) (o:Oper) (w:World) (M:Nat->Prop) (κ:Nat->Value) (x:SV):Prop:=
 ∃ v w',(execOp a.eval o).run P w= .ok (.value v) w'/\Below w.heap.size w w'/\ae w' M κ x v
section
variable {P:Program} {a:Act} {w:World} {M:Nat->Prop} {κ:Nat->Value} {dst:Option Tmp} {ty:TypeId} {pos:String} {aft:Array Edge} {gd:Option (Nat×Bool)}
theorem aB {o:Oper} {x:SV} {v:Value} (h:(execOp a.eval o).run P w= .ok (.value v) w) (hx:ae w M κ x v):d6 P a o w M κ x:=⟨v,w,h,Below.refl _ _,hx⟩
theorem I7 {x:Operand} {y:SV} (h:ae w M κ y (a.eval x)):d6 P a ⟨dst,.move x,ty,pos,aft,gd⟩ w M κ y:=aB (by simp[execOp]) h
theorem DL {x:Operand} {y:SV} (h:ae w M κ y (a.eval x)):d6 P a ⟨dst,.assign x,ty,pos,aft,gd⟩ w M κ y:=aB (by simp[execOp]) h
theorem A4 {c x y:Operand} {t:Bool} {z:SV} (hc:ae w M κ (.d (.bool t)) (a.eval c)) (h:ae w M κ z (if t then a.eval x else a.eval y)):d6 P a ⟨dst,.pick c x y,ty,pos,aft,gd⟩ w M κ z:=by
 simp only[ae,aQ] at hc
 refine aB (v:=if t then a.eval x else a.eval y) ?_ h
 simp[execOp,hc,asBool]
theorem mM {t:TypeId} {d:TypeDesc} (h:P.underlying t=some d) (w:World):(isAgg t).run P w= .ok (jp d) w:=by
 simp only[isAgg,Sem.run_bind,run_underlying h,Result.andThen_ok]
 cases d<;>simp[jp]
theorem dH {t:TypeId} (h:(P.info? t).isSome=true) (w:World):(sizeOf t).run P w= .ok (P.cellsOf t) w:=by
 obtain⟨i,hi⟩:=Pu.1 h
 simp[sizeOf,typeInfo,hi,Program.cellsOf]
theorem DM {t:TypeId} {d:TypeDesc} (h:P.underlying t=some d) (hd:jp d=false) {b o:Nat} {v:Value} (hc:w.cell? ⟨b,o,none⟩=some v):(loadVar t ⟨b,o,none⟩).run P w= .ok v w:=by
 simp[loadVar,mM h,hd,hc]
theorem np {t:TypeId} {d:TypeDesc} (h:P.underlying t=some d) (hd:jp d=true) (hi:(P.info? t).isSome=true) {b o:Nat} {vs:List Value} (hn:P.cellsOf t=vs.length)
  (hc:∀ j v,vs[j]?=some v->w.cell? ⟨b,o+j,none⟩=some v):(loadVar t ⟨b,o,none⟩).run P w= .ok (.agg vs.toArray) w:=by
 have:=run_loadCells_list (P:=P) w ⟨b,o,none⟩ vs (fun j v hj=>by rw[gm];exact hc j v hj)
 simp[loadVar,mM h,hd,dH hi,hn,this]
theorem y0 {t:TypeId} {d:TypeDesc} {x:Operand} {b o:Nat} {v:Value} {y:SV} (h:P.underlying t=some d) (hd:jp d=false) (hx:a.eval x= .pointer (some ⟨b,o,none⟩))
  (hc:w.cell? ⟨b,o,none⟩=some v) (hy:ae w M κ y v):d6 P a ⟨dst,.load t x,ty,pos,aft,gd⟩ w M κ y:=
 aB (v:=v) (by simp[execOp,Instr.loadAt,Instr.sureAddr,hx,DM h hd hc]) hy
theorem y2 {t:TypeId} {d:TypeDesc} {x:Operand} {b o:Nat} {vs:List Value} {y:SV} (h:P.underlying t=some d) (hd:jp d=true) (hi:(P.info? t).isSome=true) (hn:P.cellsOf t=vs.length) (hx:a.eval x= .pointer (some ⟨b,o,none⟩))
  (hc:∀ j v,vs[j]?=some v->w.cell? ⟨b,o+j,none⟩=some v) (hy:ae w M κ y (.agg vs.toArray)):d6 P a ⟨dst,.load t x,ty,pos,aft,gd⟩ w M κ y:=
 aB (v:= .agg vs.toArray) (by simp[execOp,Instr.loadAt,Instr.sureAddr,hx,np h hd hi hn hc]) hy
theorem HJ {T:TypeId} {x:Operand} {vs:List Value} {cs:List DV} (hM:∀ b,M b->b<w.heap.size) (hv:(a.eval x).cells=vs.toArray) (h1:∀ u∈vs,u.oneCell'=true) (hc:aI w M cs vs):
  d6 P a ⟨dst,.box T x,ty,pos,aft,gd⟩ w M κ (.d (.ptr cs)):=by
 refine⟨.pointer (some ⟨w.heap.size,0,none⟩),w.alloc (.cells vs.toArray T), ?_,(Below.refl _ _).alloc (OH _) _, ?_⟩
 ·simp only[execOp,Instr.box,newVar,newRow,newObj,hv,Sem.run_bind,Sem.run,Result.andThen_ok,Sem.run_pure]
  rfl
 ·simp only[ae,aQ]
  refine⟨w.heap.size,0,rfl,fun h=>Nat.lt_irrefl _ (hM _ h),by simp, ?_⟩
  exact bO.of_row (heap_alloc_new w _) (hc.ext (lL.of_below ((Below.refl _ _).alloc (OH _) _))) h1 oS
theorem y3 {t:TypeId} {i:TypeInfo} {z:Value} (hi:P.info? t=some i) (hz:i.zero=some z) {vs:List Value} (hv:z.cells=vs.toArray):(execOp a.eval ⟨dst,.alloc t,ty,pos,aft,gd⟩).run P w= .ok (.value (.pointer (some ⟨w.heap.size,0,none⟩))) (w.alloc (.cells vs.toArray t)):=by
 have hzv:(zeroValue t).run P w= .ok z w:=by simp[zeroValue,typeInfo,hi,hz]
 simp only[execOp,Instr.alloc,newVar,newRow,newObj,hv,Sem.run_bind,hzv,Sem.run,Result.andThen_ok,Sem.run_pure]
 rfl
theorem EF {t:TypeId} {i:TypeInfo} {z:Value} (hi:P.info? t=some i) (hz:i.zero=some z) {vs:List Value} {cs:List DV} (hM:∀ b,M b->b<w.heap.size) (hv:z.cells=vs.toArray) (h1:∀ u∈vs,u.oneCell'=true) (hc:aI w M cs vs):
  d6 P a ⟨dst,.alloc t,ty,pos,aft,gd⟩ w M κ (.d (.ptr cs)):=by
 refine⟨.pointer (some ⟨w.heap.size,0,none⟩),w.alloc (.cells vs.toArray t),y3 hi hz hv,(Below.refl _ _).alloc (OH _) _, ?_⟩
 simp only[ae,aQ]
 refine⟨w.heap.size,0,rfl,fun h=>Nat.lt_irrefl _ (hM _ h),by simp, ?_⟩
 exact bO.of_row (heap_alloc_new w _) (hc.ext (lL.of_below ((Below.refl _ _).alloc (OH _) _))) h1 oS
theorem y4 {t:TypeId} {fs:Array Field} {f:Field} {i:Nat} {x:Operand} {b o:Nat} {y:SV} (h:P.underlying t=some (.struct fs)) (hf:fs[i]?=some f) (hi:(P.info? f.type).isSome=true) (hn:P.cellsOf f.type≠0)
  (hx:a.eval x= .pointer (some ⟨b,o,none⟩)) (hy:ae w M κ y (.pointer (some ⟨b,o+f.offset,none⟩))):d6 P a ⟨dst,.fieldAddr t x i,ty,pos,aft,gd⟩ w M κ y:=
 aB (v:= .pointer (some ⟨b,o+f.offset,none⟩)) (by simp[execOp,Instr.fieldAt,Instr.sureAddr,hx,run_underlying h,hf,fieldPlace,dH hi,hn,gm]) hy
theorem A5 {t e:TypeId} {len:Nat} {x i:Operand} {k:IntKind} {n:Int} {d:TypeDesc} {vs:List Value} {v:Value} {y:SV} (h:P.underlying t=some (.array len e)) (hi:(P.info? e).isSome=true) (h1:P.cellsOf e=1) (hu:P.underlying e=some d) (hd:jp d=false)
  (hx:a.eval x= .agg vs.toArray) (hn:a.eval i= .int k n) (h0:0<=n) (hl:n<len) (hv:vs[n.toNat]?=some v) (hy:ae w M κ y v):d6 P a ⟨dst,.index t x i,ty,pos,aft,gd⟩ w M κ y:=
 aB (v:=v) (by simp[execOp,Instr.index,hx,hn,asIntOf,run_underlying h,h0,hl,part,mM hu,hd,dH hi,h1,hv]) hy
theorem zO {t e:TypeId} {len:Nat} {x i:Operand} {k:IntKind} {n:Int} {d:TypeDesc} {vs:List Value} {y:SV} (h:P.underlying t=some (.array len e)) (hi:(P.info? e).isSome=true) (hu:P.underlying e=some d) (hd:jp d=true)
  (hx:a.eval x= .agg vs.toArray) (hn:a.eval i= .int k n) (h0:0<=n) (hl:n<len) (hy:ae w M κ y (.agg ((vs.drop (n.toNat * P.cellsOf e)).take (P.cellsOf e)).toArray)):d6 P a ⟨dst,.index t x i,ty,pos,aft,gd⟩ w M κ y:=by
 refine aB (v:= .agg ((vs.drop (n.toNat * P.cellsOf e)).take (P.cellsOf e)).toArray) ?_ hy
 simp[execOp,Instr.index,hx,hn,asIntOf,run_underlying h,h0,hl,part,mM hu,hd,dH hi,List.extract_eq_take_drop]
theorem A6 {t:TypeId} {fs:Array Field} {f:Field} {i:Nat} {x:Operand} {d:TypeDesc} {vs:List Value} {v:Value} {y:SV} (h:P.underlying t=some (.struct fs)) (hf:fs[i]?=some f) (hu:P.underlying f.type=some d) (hd:jp d=false)
  (hx:a.eval x= .agg vs.toArray) (hv:vs[f.offset]?=some v) (hy:ae w M κ y v):d6 P a ⟨dst,.field t x i,ty,pos,aft,gd⟩ w M κ y:=
 aB (v:=v) (by simp[execOp,Instr.field,hx,run_underlying h,hf,part,mM hu,hd,asAgg,hv]) hy
theorem A7 {t:TypeId} {fs:Array Field} {f:Field} {i:Nat} {x:Operand} {d:TypeDesc} {vs:List Value} {y:SV} (h:P.underlying t=some (.struct fs)) (hf:fs[i]?=some f) (hu:P.underlying f.type=some d) (hd:jp d=true) (hi:(P.info? f.type).isSome=true)
  (hx:a.eval x= .agg vs.toArray) (hy:ae w M κ y (.agg ((vs.drop f.offset).take (P.cellsOf f.type)).toArray)):d6 P a ⟨dst,.field t x i,ty,pos,aft,gd⟩ w M κ y:=by
 refine aB (v:= .agg ((vs.drop f.offset).take (P.cellsOf f.type)).toArray) ?_ hy
 simp[execOp,Instr.field,hx,run_underlying h,hf,part,mM hu,hd,asAgg,dH hi,List.extract_eq_take_drop]
theorem y5 {t e:TypeId} {x i:Operand} {k:IntKind} {b o len cap:Nat} {n:Int} {y:SV} (h:P.underlying t=some (.slice e)) (hi:(P.info? e).isSome=true)
  (hx:a.eval x= .slice (some ⟨b,o,none⟩) len cap) (hn:a.eval i= .int k n) (h0:0<=n) (h1:n<len) (hy:ae w M κ y (.pointer (some ⟨b,o+n.toNat * P.cellsOf e,none⟩))):
  d6 P a ⟨dst,.indexAddr t x i,ty,pos,aft,gd⟩ w M κ y:=
 aB (v:= .pointer (some ⟨b,o+n.toNat * P.cellsOf e,none⟩)) (by simp[execOp,Instr.indexAt,hx,hn,asIntOf,run_underlying h,dH hi,h0,h1,gm]) hy
theorem FX {t:TypeId} {x i:Operand} {k:IntKind} {l:List UInt8} {n:Int} {c:UInt8} (h:P.underlying t=some .string)
  (hx:a.eval x= .string ⟨l.toArray⟩) (hn:a.eval i= .int k n) (h0:0<=n) (hc:l[n.toNat]?=some c):d6 P a ⟨dst,.index t x i,ty,pos,aft,gd⟩ w M κ (.d (.int .u8 c.toNat)):=by
 have hg:(⟨l.toArray⟩:ByteArray)[n.toNat]?=some c:=by
  obtain⟨hlt,he⟩:=OG.1 hc
  rw[getElem?_pos (⟨l.toArray⟩:ByteArray) n.toNat hlt]
  simp only[Oy]
  exact he
 refine aB (v:= .int .u8 c.toNat) ?_ (by simp[ae,aQ])
 simp[execOp,Instr.index,hx,hn,asIntOf,run_underlying h,h0,hg]
theorem GR (a b:Int):(a==b)=decide (a=b):=by rw[O1];simp
theorem K0 (a b:Int):(a !=b)=decide (a≠b):=by rw[O1];simp
def EG (P:Program) (t:TypeId) (xo yo:Operand):DV->Prop
 | .bool _=>P.underlying t=some .bool
 | .raw _=>(pb xo=true\/pb yo=true)/\∃ ms,P.underlying t=some (.interface ms)
 | .err=>(pb xo=true\/pb yo=true)/\∃ ms,P.underlying t=some (.interface ms)
 |_=>True
theorem xW (t:TypeId) (hh:P.underlying t=some .bool) (c d:Bool) (n:Nat):(Op.equalIn (n+1) t (.bool c) (.bool d)).run P w= .ok (c==d) w:=by
 rw[Op.equalIn]
 simp[run_underlying hh]
theorem DN (t:TypeId) {ms:Array (String×TypeId)} (hh:P.underlying t=some (.interface ms)) (n:Nat):(Op.equalIn (n+1) t .nilIface .nilIface).run P w= .ok true w:=by
 rw[Op.equalIn]
 simp[run_underlying hh]
theorem Cs (t:TypeId) {ms:Array (String×TypeId)} (hh:P.underlying t=some (.interface ms)) (n:Nat) (u:TypeId) (v:Value):(Op.equalIn (n+1) t (.iface u v) .nilIface).run P w= .ok false w:=by
 rw[Op.equalIn]
 simp[run_underlying hh]
theorem A8 (t:TypeId) (hh:P.underlying t=some .bool) (c d:Bool):(Op.equal t (.bool c) (.bool d)).run P w= .ok (c==d) w:=xW t hh c d 9999
theorem A9 (t:TypeId) {ms:Array (String×TypeId)} (hh:P.underlying t=some (.interface ms)):(Op.equal t .nilIface .nilIface).run P w= .ok true w:=DN t hh 9999
theorem zP (t:TypeId) {ms:Array (String×TypeId)} (hh:P.underlying t=some (.interface ms)) (u:TypeId) (v:Value):(Op.equal t (.iface u v) .nilIface).run P w= .ok false w:=Cs t hh 9999 u v
theorem wZ (t:TypeId) {e:TypeId} (hh:P.underlying t=some (.pointer e)) (q:Option Addr):(Op.equal t (.pointer q) (.pointer none)).run P w= .ok q.isNone w:=by
 unfold Op.equal
 rw[show Op.maxDepth=9999+1 from rfl,Op.equalIn]
 cases q<;>simp[run_underlying hh]
theorem I8 {op:BinOp} {t:TypeId} {xo yo:Operand} {x y:DV} {u v:Value} {p:Prop} {r:DV} (ht:EG P t xo yo x) (hu:aQ w M x u) (hv:aQ w M y v) (h:An op x y=some (p,r)) (hp:p):
  ∃ z,(do eqGuard op t xo yo u v;binOp op t u v:Sem Value).run P w= .ok z w/\aQ w M r z:=by
 unfold An at h
 split at h
 ·
  rename_i k m k' n
  simp only[aQ] at hu hv
  subst hu hv
  split at h
  ·rename_i hk
   subst hk
   unfold xU at h
   split at h<;>first
    |(simp only[Oy,OB] at h;obtain⟨rfl,rfl⟩:=h
      simp[eqGuard,binOp,Op.intArith,Op.intCmp,Op.intDiv,Op.intBits,EC,aQ,GR,K0,hp];done)
    |(simp only[Oy,OB] at h;obtain⟨rfl,rfl⟩:=h
      refine⟨_, ?_,rfl⟩
      simp only[eqGuard,binOp]
      first|rw[Go.shift_shr _ _ _ _ hp.1 hp.2]|rw[Go.shift_shl _ _ _ _ hp.1 hp.2]
      rfl)
    |(cases h;done)
    |skip
  ·split at h
   ·unfold xU at h
    simp only[Oy,OB] at h;obtain⟨rfl,rfl⟩:=h
    refine⟨_, ?_,rfl⟩
    simp only[eqGuard,binOp]
    rw[Go.shift_shr _ _ _ _ hp.1 hp.2]
    rfl
   ·unfold xU at h
    simp only[Oy,OB] at h;obtain⟨rfl,rfl⟩:=h
    refine⟨_, ?_,rfl⟩
    simp only[eqGuard,binOp]
    rw[Go.shift_shl _ _ _ _ hp.1 hp.2]
    rfl
   ·cases h
 ·
  rename_i m n
  simp only[aQ] at hu hv
  subst hu hv
  have hsz:∀ l:List UInt8,(⟨l.toArray⟩:ByteArray).size=l.length:=fun l=>by simp[ByteArray.size]
  have htl:∀ l:List UInt8,(⟨l.toArray⟩:ByteArray).toList=l:=fun l=>by rw[Lib.toList_data]
  have hbq:∀ l k:List UInt8,(l==k)=decide (l=k):=fun l k=>by rw[O1];simp
  unfold GP at h
  split at h
  ·simp only[Oy,OB] at h;obtain⟨rfl,rfl⟩:=h
   have hno:¬ (((m.length+n.length:Nat):Int)>IntKind.i64.max):=by
    have:IntKind.i64.max=9223372036854775807:=by decide
    omega
   refine⟨.string ⟨(m++n).toArray⟩, ?_,by simp[aQ]⟩
   simp only[eqGuard,binOp,Op.stringOp,hsz,P7 hno]
   simp
   apply ByteArray.ext
   simp
  all_goals first
   |(simp only[Oy,OB] at h;obtain⟨rfl,rfl⟩:=h
     simp[eqGuard,binOp,Op.stringOp,aQ,htl,hbq];done)
   |(cases h;done)
 ·rename_i m n
  simp only[aQ] at hu hv
  subst hu hv
  have hbb:P.underlying t=some .bool:=ht
  have hbq:∀ c d:Bool,(c==d)=decide (c=d):=fun c d=>by cases c<;>cases d<;>rfl
  split at h
  ·simp only[Oy,OB] at h;obtain⟨rfl,rfl⟩:=h
   exact⟨.bool (decide (m=n)),by simp[eqGuard,binOp,A8 t hbb,hbq],by simp[aQ]⟩
  ·simp only[Oy,OB] at h;obtain⟨rfl,rfl⟩:=h
   exact⟨.bool (decide (m≠n)),by simp[eqGuard,binOp,A8 t hbb,hbq],by simp[aQ]⟩
  ·cases h
 ·simp only[aQ] at hu hv
  subst hu hv
  obtain⟨ht,ms,hms⟩:=ht
  have hg:(eqGuard op t xo yo .nilIface .nilIface).run P w= .ok () w:=by
   rcases ht with ht|ht
   ·cases xo<;>simp[pb] at ht
    cases op<;>simp[eqGuard]
   ·cases yo<;>simp[pb] at ht
    cases op<;>simp[eqGuard]
  split at h
  ·simp only[Oy,OB] at h;obtain⟨rfl,rfl⟩:=h
   exact⟨.bool true,by simp[hg,binOp,A9 t hms],by simp[aQ]⟩
  ·simp only[Oy,OB] at h;obtain⟨rfl,rfl⟩:=h
   exact⟨.bool false,by simp[hg,binOp,A9 t hms],by simp[aQ]⟩
  ·cases h
 ·simp only[aQ] at hu hv
  obtain⟨tt,uu,rfl⟩:=hu
  subst hv
  obtain⟨ht,ms,hms⟩:=ht
  split at h
  ·simp only[Oy,OB] at h;obtain⟨rfl,rfl⟩:=h
   exact⟨.bool false,by simp[eqGuard,binOp,zP t hms],by simp[aQ]⟩
  ·simp only[Oy,OB] at h;obtain⟨rfl,rfl⟩:=h
   exact⟨.bool true,by simp[eqGuard,binOp,zP t hms],by simp[aQ]⟩
  ·cases h
 ·cases h
theorem sC {op:BinOp} {t t2:TypeId} {xo yo:Operand} {x y:DV} {p:Prop} {r:DV} (ht:EG P t xo yo x) (hu:aQ w M x (a.eval xo)) (hv:aQ w M y (a.eval yo)) (h:An op x y=some (p,r)) (hp:p):
  d6 P a ⟨dst,.binOp op t xo yo t2,ty,pos,aft,gd⟩ w M κ (.d r):=by
 obtain⟨z,hz,hr⟩:=I8 ht hu hv h hp
 simp only[Sem.run_bind] at hz
 exact aB (v:=z) (by simp only[execOp,Sem.run_bind,hz,Result.andThen_ok,Sem.run_pure]) (by simpa[ae] using hr)
theorem HK {t:TypeId} {x:Operand} {b:Bool} (hx:a.eval x= .bool b):d6 P a ⟨dst,.unOp .not t x,ty,pos,aft,gd⟩ w M κ (.d (.bool !b)):=
 aB (v:= .bool !b) (by simp[execOp,Op.unary,hx]) (by simp[ae,aQ])
theorem HL {t:TypeId} {x:Operand} {k:IntKind} {n:Int} (hx:a.eval x= .int k n):d6 P a ⟨dst,.unOp .neg t x,ty,pos,aft,gd⟩ w M κ (.d (.int k (k.wrap (0 - n)))):=
 aB (v:= .int k (k.wrap (0 - n))) (by simp[execOp,Op.unary,hx,Op.intArith]) (by simp[ae,aQ])
theorem HM {s t:TypeId} {x:Operand} {k k':IntKind} {n:Int} (hs:(P.underlying s).isSome=true) (ht:P.underlying t=some (.int k)) (hx:a.eval x= .int k' n):d6 P a ⟨dst,.convert s t x,ty,pos,aft,gd⟩ w M κ (.d (.int k (k.wrap n))):=by
 obtain⟨d',hd'⟩:=Pu.mp hs
 exact aB (v:= .int k (k.wrap n)) (by simp[execOp,convert,run_underlying hd',run_underlying ht,hx,Conv.intToInt]) (by simp[ae,aQ])
theorem FY {s t:TypeId} {x:Operand} {k k':IntKind} {n:Int} (hs:P.underlying s=some (.int k)) (ht:P.underlying t=some .string) (hx:a.eval x= .int k' n):d6 P a ⟨dst,.convert s t x,ty,pos,aft,gd⟩ w M κ (.d (.str (Utf8.encode n).data.toList)):=by
 refine aB (v:= .string (Utf8.encode n)) ?_ (by simp only[ae,aQ])
 have h:=run_convert_int_string (P:=P) w s t k' n (by rw[hs];rfl) ht
 simp only[execOp,hx,Sem.run_bind,h,Result.andThen_ok,Sem.run_pure]
def K1 (w:World) (v:Value) (l:List UInt8):Prop:=∃ ad cap,v= .slice ad l.length cap/\(l=[]\/∃ b o,ad=some ⟨b,o,none⟩/\∀ (j:Nat) (c:UInt8),l[j]?=some c->w.cell? ⟨b,o+j,none⟩=some (.int .u8 c.toNat))
theorem qv {s t e:TypeId} {x:Operand} {l:List UInt8} (hs:P.underlying s=some (.slice e)) (he:P.underlying e=some (.int .u8)) (ht:P.underlying t=some .string) (hx:K1 w (a.eval x) l):d6 P a ⟨dst,.convert s t x,ty,pos,aft,gd⟩ w M κ (.d (.str l)):=by
 obtain⟨ad,cap,hv,hl⟩:=hx
 refine aB (v:= .string ⟨l.toArray⟩) ?_ (by simp only[ae,aQ])
 have h:(convert s t (.slice ad l.length cap)).run P w= .ok (.string ⟨l.toArray⟩) w:=by
  rcases hl with rfl|⟨b,o,rfl,hc⟩
  ·rw[Pr,run_convert_bytes_string w s t e ad 0 cap hs he ht]
   cases ad<;>simp[Conv.bytesToString,loadCells]
   all_goals rfl
  ·exact run_convert_bytes_back w s t e ⟨b,o,none⟩ cap l hs he ht (fun j hj=>by
    have:=hc j l[j] (OJ hj)
    have e2:(⟨b,o,none⟩:Addr).add j=⟨b,o+j,none⟩:=by unfold Addr.add;split<;>simp_all
    rw[e2];exact this)
 simp only[execOp,hv,Sem.run_bind,h,Result.andThen_ok,Sem.run_pure]
theorem FZ (hM:∀ b,M b->b<w.heap.size) {s t e:TypeId} {x:Operand} {l:List UInt8} (hs:P.underlying s=some .string) (ht:P.underlying t=some (.slice e)) (he:P.underlying e=some (.int .u8)) (hx:a.eval x= .string ⟨l.toArray⟩):d6 P a ⟨dst,.convert s t x,ty,pos,aft,gd⟩ w M κ (.d (.slice (l.map fun b=>[.int .u8 b.toNat]))):=by
 have h:=run_bytes_of_string (P:=P) w s t e ⟨l.toArray⟩ hs ht he
 have hsz:(⟨l.toArray⟩:ByteArray).size=l.length:=by simp[ByteArray.size]
 rw[hsz] at h
 have hge:=grownCap_ge w l.length 0 e
 refine⟨_,_,by simp only[execOp,hx,Sem.run_bind,h,Result.andThen_ok,Sem.run_pure];rfl,((Below.refl _ _).drew).alloc (OH _) _, ?_⟩
 simp only[ae,aQ]
 refine⟨some ⟨w.heap.size,0,none⟩,grownCap w l.length 0 e,by simp,by simpa using hge,by simp, ?_⟩
 by_cases hl:l=[]
 ·exact .inl (by simp[hl])
 ·refine .inr ⟨w.heap.size,0,1,rfl,fun hb=>Nat.lt_irrefl _ (hM _ hb),by simp, ?_⟩
  have key:∀ (r:List UInt8) (o:Nat),(∀ (j:Nat) (c:UInt8),r[j]?=some c->(w.drew.alloc (.cells (bytesRow ⟨l.toArray⟩ (grownCap w l.length 0 e)) e ((bytesRow ⟨l.toArray⟩ (grownCap w l.length 0 e)).size,(bytesRow ⟨l.toArray⟩ (grownCap w l.length 0 e)).size+1))).cell? ⟨w.heap.size,o+j,none⟩=some (.int .u8 c.toNat))->
    aS (w.drew.alloc (.cells (bytesRow ⟨l.toArray⟩ (grownCap w l.length 0 e)) e ((bytesRow ⟨l.toArray⟩ (grownCap w l.length 0 e)).size,(bytesRow ⟨l.toArray⟩ (grownCap w l.length 0 e)).size+1))) M (r.map fun b=>[.int .u8 b.toNat]) w.heap.size o 1:=by
   intro r
   induction r with
   |nil=>intro o _;simp only[PU,aS]
   |cons c r ih=>
    intro o hc
    simp only[OQ,aS,bO]
    refine⟨rfl,⟨⟨.int .u8 c.toNat,by simpa using hc 0 c rfl,rfl,by simp only[aQ]⟩,trivial⟩,ih (o+1) fun j d hj=> ?_⟩
    have:=hc (j+1) d (by simpa using hj)
    rwa[show o+(j+1)=o+1+j by omega] at this
  refine key l 0 fun j c hj=> ?_
  have hjl:j<(⟨l.toArray⟩:ByteArray).data.size:=by have:=(OG.1 hj).1;simpa using this
  have hb:=bytesRow_at ⟨l.toArray⟩ (grownCap w l.length 0 e) j hjl
  have hc:(⟨l.toArray⟩:ByteArray).data[j]=c:=by
   have:=OG.1 hj
   obtain⟨h1,h2⟩:=this
   simpa using h2
  rw[hc] at hb
  have hnew:=heap_alloc_new w.drew (.cells (bytesRow ⟨l.toArray⟩ (grownCap w l.length 0 e)) e ((bytesRow ⟨l.toArray⟩ (grownCap w l.length 0 e)).size,(bytesRow ⟨l.toArray⟩ (grownCap w l.length 0 e)).size+1))
  have hnew':(w.drew.alloc (.cells (bytesRow ⟨l.toArray⟩ (grownCap w l.length 0 e)) e ((bytesRow ⟨l.toArray⟩ (grownCap w l.length 0 e)).size,(bytesRow ⟨l.toArray⟩ (grownCap w l.length 0 e)).size+1))).heap[w.heap.size]?=some (.cells (bytesRow ⟨l.toArray⟩ (grownCap w l.length 0 e)) e ((bytesRow ⟨l.toArray⟩ (grownCap w l.length 0 e)).size,(bytesRow ⟨l.toArray⟩ (grownCap w l.length 0 e)).size+1)):=hnew
  unfold World.cell?
  simp only[hnew',Ps]
  exact hb
theorem CR {x:Operand} {i:Nat} {vs:List Value} {v:Value} {y:SV} (hx:a.eval x= .tuple vs.toArray) (hv:vs[i]?=some v) (hy:ae w M κ y v):d6 P a ⟨dst,.extract x i,ty,pos,aft,gd⟩ w M κ y:=
 aB (v:=v) (by simp[execOp,Instr.extract,hx,hv]) hy
theorem gZ (ρ:Operand->Value) (b:Builtin) (args:Array Operand) (ts:Array TypeId):∃ cs,(execOp ρ ⟨dst,.call {callee:= .builtin b,args,argTypes:=ts},ty,pos,aft,gd⟩).run P w=
  (builtin b ts ty cs (args.map ρ)).run P w:=⟨_,by simp only[execOp,resolve,Sem.run_bind,Sem.run_pure,Result.andThen_ok,invoke];rfl⟩
theorem GS (l:List UInt8):(⟨l.toArray⟩:ByteArray).size=l.length:=by
 show l.toArray.size=_
 simp
theorem jx {t e:TypeId} {x:Operand} {args:Array Operand} {ts:Array TypeId} (ha:args.toList=[x]) (hts:ts.toList=[t]) {b:Option Addr} {n c:Nat} (ht:P.underlying t=some (.slice e)) (hx:a.eval x= .slice b n c):
  d6 P a ⟨dst,.call {callee:= .builtin .len,args,argTypes:=ts},ty,pos,aft,gd⟩ w M κ (.d (.int .i64 n)):=by
 have e1:args= #[x]:=by rw[<-Pm];exact ha
 have e2:ts= #[t]:=by rw[<-Pm];exact hts
 subst e1 e2
 exact aB (v:= .int .i64 n) (by obtain⟨cs,hcs⟩:=gZ (P:=P) (w:=w) (dst:=dst) (ty:=ty) (pos:=pos) (aft:=aft) (gd:=gd) a.eval .len #[x] #[t];rw[hcs];simp[builtin,Builtin.len_,run_underlying ht,hx,goInt]) (by simp[ae,aQ])
theorem Ct {t:TypeId} {x:Operand} {args:Array Operand} {ts:Array TypeId} (ha:args.toList=[x]) (hts:ts.toList=[t]) {l:List UInt8} (ht:P.underlying t=some .string) (hx:a.eval x= .string ⟨l.toArray⟩):
  d6 P a ⟨dst,.call {callee:= .builtin .len,args,argTypes:=ts},ty,pos,aft,gd⟩ w M κ (.d (.int .i64 l.length)):=by
 have e1:args= #[x]:=by rw[<-Pm];exact ha
 have e2:ts= #[t]:=by rw[<-Pm];exact hts
 subst e1 e2
 exact aB (v:= .int .i64 l.length) (by obtain⟨cs,hcs⟩:=gZ (P:=P) (w:=w) (dst:=dst) (ty:=ty) (pos:=pos) (aft:=aft) (gd:=gd) a.eval .len #[x] #[t];rw[hcs];simp[builtin,Builtin.len_,run_underlying ht,hx,goInt,GS]) (by simp[ae,aQ])
theorem Cu {t k e:TypeId} {x:Operand} {args:Array Operand} {ts:Array TypeId} (ha:args.toList=[x]) (hts:ts.toList=[t]) {r clock:Nat} {es:List MapEntry} (ht:P.underlying t=some (.map k e)) (hx:a.eval x= .map (some r)) (hr:w.heap[r]?=some (.map es.toArray clock)):
  d6 P a ⟨dst,.call {callee:= .builtin .len,args,argTypes:=ts},ty,pos,aft,gd⟩ w M κ (.d (.int .i64 es.length)):=by
 have e1:args= #[x]:=by rw[<-Pm];exact ha
 have e2:ts= #[t]:=by rw[<-Pm];exact hts
 subst e1 e2
 exact aB (v:= .int .i64 es.length) (by obtain⟨cs,hcs⟩:=gZ (P:=P) (w:=w) (dst:=dst) (ty:=ty) (pos:=pos) (aft:=aft) (gd:=gd) a.eval .len #[x] #[t];rw[hcs];simp[builtin,Builtin.len_,run_underlying ht,hx,goInt,getObj,Sem.run,hr]) (by simp[ae,aQ])
theorem zQ:∀ (l:List DV) (vs:List Value) (m r:Int),aI w M l vs->te m l=some r->(vs.foldlM Builtin.min2 (.int .i64 m)).run P w= .ok (.int .i64 r) w
 |[],vs,m,r,hl,h=>by
  unfold aI at hl;subst hl
  simp only[te,Oy] at h;subst h;rfl
 |x::l,vs,m,r,hl,h=>by
  unfold aI at hl
  obtain⟨u,us,rfl,h1,h2⟩:=hl
  unfold te at h
  split at h
  ·cases ‹_::_=_›
  ·rename_i heq
   simp only[O7] at heq
   obtain⟨rfl,rfl⟩:=heq
   simp only[aQ] at h1
   subst h1
   simp only[List.foldlM_cons,Builtin.min2,pure_bind]
   exact zQ _ _ _ _ h2 h
  ·cases h
theorem zR:∀ (l:List DV) (vs:List Value) (m r:Int),aI w M l vs->tf m l=some r->(vs.foldlM Builtin.max2 (.int .i64 m)).run P w= .ok (.int .i64 r) w
 |[],vs,m,r,hl,h=>by
  unfold aI at hl;subst hl
  simp only[tf,Oy] at h;subst h;rfl
 |x::l,vs,m,r,hl,h=>by
  unfold aI at hl
  obtain⟨u,us,rfl,h1,h2⟩:=hl
  unfold tf at h
  split at h
  ·cases ‹_::_=_›
  ·rename_i heq
   simp only[O7] at heq
   obtain⟨rfl,rfl⟩:=heq
   simp only[aQ] at h1
   subst h1
   simp only[List.foldlM_cons,Builtin.max2,pure_bind]
   exact zR _ _ _ _ h2 h
  ·cases h
theorem F0 {args:Array Operand} {ts:Array TypeId} {x:Operand} {xs:List Operand} (ha:args.toList=x::xs) {m r:Int} {l:List DV} (hx:a.eval x= .int .i64 m) (hl:aI w M l (xs.map a.eval)) (h:te m l=some r):
  d6 P a ⟨dst,.call {callee:= .builtin .min,args,argTypes:=ts},ty,pos,aft,gd⟩ w M κ (.d (.int .i64 r)):=by
 refine aB (v:= .int .i64 r) ?_ (by simp[ae,aQ])
 have:=zQ (P:=P) l _ m r hl h
 obtain⟨cs,hcs⟩:=gZ (P:=P) (w:=w) (dst:=dst) (ty:=ty) (pos:=pos) (aft:=aft) (gd:=gd) a.eval .min args ts
 rw[hcs]
 simp only[builtin,Builtin.min_,Array.toList_map,ha,OQ,hx,Sem.run_bind,this,Result.andThen_ok,Sem.run_pure]
theorem F4 {args:Array Operand} {ts:Array TypeId} {x:Operand} {xs:List Operand} (ha:args.toList=x::xs) {m r:Int} {l:List DV} (hx:a.eval x= .int .i64 m) (hl:aI w M l (xs.map a.eval)) (h:tf m l=some r):
  d6 P a ⟨dst,.call {callee:= .builtin .max,args,argTypes:=ts},ty,pos,aft,gd⟩ w M κ (.d (.int .i64 r)):=by
 refine aB (v:= .int .i64 r) ?_ (by simp[ae,aQ])
 have:=zR (P:=P) l _ m r hl h
 obtain⟨cs,hcs⟩:=gZ (P:=P) (w:=w) (dst:=dst) (ty:=ty) (pos:=pos) (aft:=aft) (gd:=gd) a.eval .max args ts
 rw[hcs]
 simp only[builtin,Builtin.max_,Array.toList_map,ha,OQ,hx,Sem.run_bind,this,Result.andThen_ok,Sem.run_pure]
theorem EH {f:FuncId} {first caps:Array Operand} (h0:first.size=0) {ids:List Nat} (hl:caps.toList.map a.eval=ids.map κ) (hb:∀ i∈ids,∃ b,κ i= .pointer (some ⟨b,0,none⟩)):d6 P a ⟨dst,.makeFunc (.func f) first caps,ty,pos,aft,gd⟩ w M κ (.clo f ids):=by
 have h0':first= #[]:=Array.size_eq_zero_iff.1 h0
 subst h0'
 refine aB (v:= .func (.func f) #[] (ids.map κ).toArray) ?_ (by simp only[ae,true_and];exact hb)
 rw[<-hl]
 have e:caps.map a.eval=(caps.toList.map a.eval).toArray:=by rw[<-Pm];simp
 simp[execOp,Instr.makeFunc,e]
theorem F5 {f:FuncId} {first caps:Array Operand} (h0:first.size=0) {l:List DV} (hl:aI w M l (caps.toList.map a.eval)):d6 P a ⟨dst,.makeFunc (.func f) first caps,ty,pos,aft,gd⟩ w M κ (.d (.fn f l)):=by
 have e1:first= #[]:=by simpa using h0
 subst e1
 refine aB (v:= .func (.func f) #[] (caps.toList.map a.eval).toArray) ?_ (by simp only[ae,aQ];exact⟨_,rfl,hl⟩)
 have e:caps.map a.eval=(caps.toList.map a.eval).toArray:=by rw[<-Pm];simp
 simp[execOp,Instr.makeFunc,e]
theorem y6 (a b:List UInt8):((⟨a.toArray⟩:ByteArray)==⟨b.toArray⟩)=decide (a=b):=by
 show ByteArray.beq _ _=_
 rw[O1]
 simp[ByteArray.beq]
theorem CS {kk:KK} {x:DV} {v:Value} (hf:kk.fits x=true) (hr:aQ w M x v):dD x=some v:=by
 cases kk<;>cases x<;>simp[KK.fits] at hf<;>simp only[aQ] at hr<;>subst hr<;>rfl
def KK.desc:KK->TypeDesc
 | .str=> .string
 | .int k=> .int k
 | .bool=> .bool
theorem sD {t:TypeId} {kk:KK} (h:Cr P t=some kk):P.underlying t=some kk.desc:=by
 unfold Cr at h
 split at h<;>simp at h<;>subst h<;>simpa[KK.desc]
theorem xX {kk:KK} {x k:DV} {vx vk:Value} (h1:kk.fits x=true) (h2:kk.fits k=true) (h3:dD x=some vx) (h4:dD k=some vk):Instr.sameNow kk.desc vx vk=some (xV x k):=by
 cases kk with
 |str=>
  cases x<;>simp[KK.fits] at h1
  cases k<;>simp[KK.fits] at h2
  rename_i a b
  simp[dD] at h3 h4
  subst h3 h4
  simp only[Instr.sameNow,KK.desc,xV,Oy]
  exact y6 a b
 |int q=>
  cases x<;>simp[KK.fits] at h1
  cases k<;>simp[KK.fits] at h2
  rename_i a b
  simp[dD] at h3 h4
  subst h1 h2 h3 h4
  simp only[Instr.sameNow,KK.desc,xV,PR,Oy]
  rw[O1]
  simp
 |bool=>
  cases x<;>simp[KK.fits] at h1
  cases k<;>simp[KK.fits] at h2
  rename_i a b
  simp[dD] at h3 h4
  subst h3 h4
  simp only[Instr.sameNow,KK.desc,xV,Oy]
  cases a<;>cases b<;>rfl
theorem y7 {kk:KK} {x:DV} {vx:Value} (h1:kk.fits x=true) (h3:dD x=some vx):∀ {kv:List (DV×SV)} {es:List MapEntry} {F:List Nat} (i:Nat),bk w M κ kk kv es F->n_ kv x=none->Instr.findNow kk.desc vx es i=some none
 |[],es,F,i,hm,_=>by unfold bk at hm;obtain⟨rfl,_⟩:=hm;rfl
 |(k,d)::kv,es,F,i,hm,hg=>by
  unfold bk at hm
  obtain⟨e,rest,F1,F2,rfl,_,h2,h4,hv,hm⟩:=hm
  simp only[n_] at hg
  split at hg
  ·cases hg
  ·rename_i hne
   simp only[P0] at hne
   simp only[Instr.findNow,xX h1 h2 h3 h4,hne]
   exact y7 h1 h3 (i+1) hm hg
theorem y8 {kk:KK} {x:DV} {d:SV} {vx:Value} (h1:kk.fits x=true) (h3:dD x=some vx):∀ {kv:List (DV×SV)} {es:List MapEntry} {F:List Nat} (i:Nat),bk w M κ kk kv es F->n_ kv x=some d->
  ∃ j e Fa Fe Fb,es[j]?=some e/\Instr.findNow kk.desc vx es i=some (some (i+j,e.val))/\F=Fa++Fe++Fb/\aK w M κ d e.val Fe/\e.key=vx/\
   ∀ (d':SV) (v':Value) (G:List Nat),aK w M κ d' v' G->bk w M κ kk (no kv x d') (es.modify j fun e=>{e with key:=vx,val:=v'}) (Fa++G++Fb)
 |[],es,F,i,hm,hg=>by simp[n_] at hg
 |(k,d0)::kv,es,F,i,hm,hg=>by
  unfold bk at hm
  obtain⟨e,rest,F1,F2,rfl,rfl,h2,h4,hv,hm⟩:=hm
  simp only[n_] at hg
  have hsn:=xX h1 h2 h3 h4
  split at hg
  ·rename_i heq
   simp only[Oy] at hg;subst hg
   have hkey:e.key=vx:=by
    have:dD x=dD k:=by
     cases x<;>cases k<;>simp_all [xV,dD]
    rw[this,h4] at h3;simpa using h3
   refine⟨0,e,[],F1,F2,by simp,by simp[Instr.findNow,hsn,heq],by simp,hv,hkey,fun d' v' G hr=> ?_⟩
   simp only[no,heq,PR,List.modify_zero_cons]
   unfold bk
   exact⟨_,rest,G,F2,rfl,by simp,h1,h3,hr,hm⟩
  ·rename_i hne
   simp only[P0] at hne
   obtain⟨j,e',Fa,Fe,Fb,g1,g2,rfl,g3,g4,g5⟩:=y8 h1 h3 (i+1) hm hg
   refine⟨j+1,e',F1++Fa,Fe,Fb,by simpa using g1, ?_,by simp,g3,g4,fun d' v' G hr=> ?_⟩
   ·simp only[Instr.findNow,hsn,hne,g2]
    rw[show i+1+j=i+(j+1) by omega]
   ·simp only[no,hne,O5,Pp,List.modify_succ_cons]
    unfold bk
    exact⟨e,_,F1,Fa++G++Fb,rfl,by simp,h2,h4,hv,g5 d' v' G hr⟩
theorem EI {kk:KK} {x:DV} {vx:Value} (h1:kk.fits x=true) (h3:dD x=some vx) {b:Nat}:∀ {kv:List (DV×SV)} {es:List MapEntry} {F:List Nat},bk w M κ kk kv es F->n_ kv x=none->∀ (d':SV) (v':Value) (G:List Nat),aK w M κ d' v' G->bk w M κ kk (no kv x d') (es++[{key:=vx,val:=v',born:=b}]) (F++G)
 |[],es,F,hm,_,d',v',G,hr=>by
  unfold bk at hm;obtain⟨rfl,rfl⟩:=hm
  simp only[no,OR]
  unfold bk
  exact⟨_,[],G,[],rfl,by simp,h1,h3,hr,by unfold bk;exact⟨rfl,rfl⟩⟩
 |(k,d)::kv,es,F,hm,hg,d',v',G,hr=>by
  unfold bk at hm
  obtain⟨e,rest,F1,F2,rfl,rfl,h2,h4,hv,hm⟩:=hm
  simp only[n_] at hg
  split at hg
  ·cases hg
  ·rename_i hne
   simp only[P0] at hne
   simp only[no,hne,O5,Pp,OM]
   unfold bk
   exact⟨e,_,F1,F2++G,rfl,by simp,h2,h4,hv,EI h1 h3 hm hg d' v' G hr⟩
theorem qw {b:Bool} {t:TypeId} {kk:KK} (h:P.underlying t=some kk.desc) (v:Value) (n:Nat):(Instr.checkKey b (n+1) t v).run P w= .ok () w:=by
 rw[Instr.checkKey]
 cases kk<;>simp[run_underlying h,KK.desc]
theorem uA {t:TypeId} {kk:KK} (h:P.underlying t=some kk.desc) {vx:Value} {es:List MapEntry} {r:Option (Nat×Value)} (hf:Instr.findNow kk.desc vx es 0=some r):(Instr.findKey t vx es).run P w= .ok r w:=by
 simp[Instr.findKey,run_underlying h,hf]
theorem CT {e:TypeId} {z:SV} (h:ED P e z=true):∃ v,(zeroValue e).run P w= .ok v w/\ae w M κ z v:=by
 unfold ED at h
 split at h
 ·rename_i i hi
  cases hz:i.zero with
  |none=>simp[hz] at h
  |some v=>
   rw[hz] at h
   exact⟨v,by simp[zeroValue,typeInfo,hi,hz],pa h⟩
 ·cases h
theorem A_ {t kt e:TypeId} {x i:Operand} {kk:KK} {z:SV} {d:DV} {ok:Bool} {r clock:Nat} {es:List MapEntry} {kv:List (DV×SV)} {F:List Nat} (ht:P.underlying t=some (.map kt e)) (hk:Cr P kt=some kk) (hz:ED P e z=true)
  (hx:a.eval x= .map (some r)) (hr:w.heap[r]?=some (.map es.toArray clock)) (hm:bk w M κ kk kv es F) (hf:kk.fits d=true) (hno:(oa kv d z).noOwn=true) (hd:aQ w M d (a.eval i)):
  d6 P a ⟨dst,.lookup t x i ok,ty,pos,aft,gd⟩ w M κ (if ok then .tup [oa kv d z,.d (.bool (A2 kv d))] else oa kv d z):=by
 have hkd:=sD hk
 have hkv:=CS hf hd
 have hck:∀ b,(Instr.checkKey b 10000 kt (a.eval i)).run P w= .ok () w:=fun b=>qw hkd _ 9999
 have hgo:(getObj r).run P w= .ok (.map es.toArray clock) w:=by simp[getObj,Sem.run,hr]
 have wrapup:∀ (dv:SV) (u:Value) (b:Bool),ae w M κ dv u->ae w M κ (if ok then .tup [dv,.d (.bool b)] else dv) (if ok then Value.tuple #[u,.bool b] else u):=fun dv u b hu=>by
  cases ok with
  |false=>simpa using hu
  |true=>
   simp only[PR,ae,aQ,ai]
   exact⟨[u,.bool b],rfl,u,[.bool b],rfl,hu,.bool b,[],rfl,rfl,rfl⟩
 cases hg:n_ kv d with
 |none=>
  obtain⟨zv,hzv,hzr⟩:=CT (w:=w) (M:=M) (κ:=κ) hz
  have hfn:=uA (P:=P) (w:=w) hkd (y7 hf hkv 0 hm hg)
  simp only[oa,A2,hg,PP,Option.isSome_none]
  refine aB (v:=if ok then Value.tuple #[zv,.bool false] else zv) ?_ (wrapup z zv false hzr)
  simp only[execOp,Instr.lookup,Sem.run_bind,run_underlying ht,Result.andThen_ok,hx,hgo,Sem.run_pure,hck,hfn,hzv]
 |some d'=>
  obtain⟨j,e',_,_,_,_,g2,_,g3,_,_⟩:=y8 hf hkv 0 hm hg
  have hfn:=uA (P:=P) (w:=w) hkd g2
  simp only[oa,A2,hg,Pl,Option.isSome_some] at hno⊢
  refine aB (v:=if ok then Value.tuple #[e'.val,.bool true] else e'.val) ?_ (wrapup d' e'.val true (aK.to_S _ _ _ hno g3).1)
  simp only[execOp,Instr.lookup,Sem.run_bind,run_underlying ht,Result.andThen_ok,hx,hgo,Sem.run_pure,hck,hfn]
theorem EJ {t kt e:TypeId} {x i:Operand} {kk:KK} {z:SV} {d:DV} {ok:Bool} (ht:P.underlying t=some (.map kt e)) (hk:Cr P kt=some kk) (hz:ED P e z=true)
  (hx:a.eval x= .map none) (hf:kk.fits d=true) (hd:aQ w M d (a.eval i)):
  d6 P a ⟨dst,.lookup t x i ok,ty,pos,aft,gd⟩ w M κ (if ok then .tup [oa [] d z,.d (.bool (A2 [] d))] else oa [] d z):=by
 have hkd:=sD hk
 have hck:∀ b,(Instr.checkKey b 10000 kt (a.eval i)).run P w= .ok () w:=fun b=>qw hkd _ 9999
 obtain⟨zv,hzv,hzr⟩:=CT (w:=w) (M:=M) (κ:=κ) hz
 refine aB (v:=if ok then Value.tuple #[zv,.bool false] else zv) ?_ ?_
 ·have hfn:(Instr.findKey kt (a.eval i) []).run P w= .ok none w:=uA hkd rfl
  simp only[execOp,Instr.lookup,Sem.run_bind,run_underlying ht,Result.andThen_ok,hx,Sem.run_pure,hck,hfn,hzv]
 ·rw[show oa [] d z=z from rfl,show A2 [] d=false from rfl]
  cases ok with
  |false=>simpa using hzr
  |true=>
   simp only[PR,ae,aQ,ai]
   exact⟨[zv,.bool false],rfl,zv,[.bool false],rfl,hzr,.bool false,[],rfl,rfl,rfl⟩
theorem CU {kk:KK}:∀ {ks vs:List DV} {es:List MapEntry},ks.all kk.fits=true->o9 ks vs es->bk w M κ kk (ks.zip (vs.map .d)) es []
 |[],[],[],_,_=>by simp[bk]
 |k::ks,v::vs,e::es,hf,h=>by
  simp only[o9] at h
  simp only[Qs,Oz] at hf
  simp only[OQ,Qm]
  unfold bk
  refine⟨e,es,[],[],rfl,rfl,hf.1,h.1, ?_,CU hf.2 h.2.2⟩
  have:=h.2.1
  cases v<;>simp[dD] at this<;>(rw[<-this];unfold aK ae aQ;exact⟨rfl,rfl⟩)
 |[],_::_,_,_,h=>by simp[o9] at h
 |[],[],_::_,_,h=>by simp[o9] at h
 |_::_,[],_,_,h=>by simp[o9] at h
 |_::_,_::_,[],_,h=>by simp[o9] at h
theorem Ba {t:TypeId} {kk:KK} {x y:DV} {u v:Value} {b:Bool} (ht:P.underlying t=some kk.desc) (hu:aQ w M x u) (hv:aQ w M y v) (h:qh kk x y=some b) (d:Nat):(Op.equalIn (d+1) t u v).run P w= .ok b w:=by
 cases kk with
 |str=>
  cases x<;>simp[qh] at h
  cases y<;>simp[qh] at h
  simp only[aQ] at hu hv
  subst hu hv h
  rw[Op.equalIn]
  simp only[Sem.run_bind,run_underlying ht,Result.andThen_ok,KK.desc,Sem.run_pure,y6]
 |int k=>
  cases x<;>simp[qh] at h
  cases y<;>simp[qh] at h
  obtain⟨⟨rfl,rfl⟩,h⟩:=h
  simp only[aQ] at hu hv
  subst hu hv h
  rw[Op.equalIn]
  simp[run_underlying ht,KK.desc,GR]
 |bool=>
  cases x<;>simp[qh] at h
  cases y<;>simp[qh] at h
  rename_i p q
  simp only[aQ] at hu hv
  subst hu hv h
  rw[xW t ht]
  cases p<;>cases q<;>rfl
theorem AG {t:TypeId} {kk:KK} {vs:List Value} {o:Nat} {v:Value} (ht:P.underlying t=some kk.desc) (hv:vs[o]?=some v):(part t vs.toArray o).run P w= .ok v w:=by
 have:jp kk.desc=false:=by cases kk<;>rfl
 simp[part,mM ht,this,hv]
theorem CV (d:Nat) {vs us:List Value} (i1:∀ f:Field,Decidable (f.name= "_")) (i2:∀ x:Bool,Decidable (x=false)):∀ {fs:List Field} {kks:List KK} {k:Nat} {cs ds:List DV} {b:Bool},A3 P k fs kks=true->aI w M cs (vs.drop k)->aI w M ds (us.drop k)->cr kks cs ds=some b->
  (forIn fs ((none:Option Bool),()) (fun(f:Field) (__s:Option Bool×Unit)=>
      @ite _ (f.name= "_") (i1 f) (pure (ForInStep.yield (none,())):Sem (ForInStep (Option Bool×Unit)))<|do
       let __do_lift <-part f.type vs.toArray f.offset
       let __do_lift_1 <-part f.type us.toArray f.offset
       let __do_lift <-Op.equalIn (d+1) f.type __do_lift __do_lift_1
       @ite _ (__do_lift=false) (i2 __do_lift) (pure (ForInStep.done (some false,()))) (pure (ForInStep.yield (none,()))))).run P w= .ok ((if b then none else some false),()) w
 |[],[],k,cs,ds,b,hf,hc,hd,he=>by
  cases cs with
  |nil=>cases ds with
   |nil=>simp[cr] at he;subst he;simp
   |cons _ _=>simp[cr] at he
  |cons _ _=>simp[cr] at he
 |f::fs,kk::kks,k,cs,ds,b,hf,hc,hd,he=>by
  simp only[A3,Oz,OI,bne_iff_ne] at hf
  obtain⟨⟨⟨rfl,hname⟩,hkk⟩,hf⟩:=hf
  have ht:=sD hkk
  cases cs with
  |nil=>simp[cr] at he
  |cons c cs=>
   cases ds with
   |nil=>simp[cr] at he
   |cons e ds=>
    simp only[cr] at he
    split at he
    ·rename_i p q hp hq
     simp only[Oy] at he
     subst he
     unfold aI at hc hd
     obtain⟨v,vs',hv,hcv,hc⟩:=hc
     obtain⟨u,us',hu,hdu,hd⟩:=hd
     have hv0:vs[f.offset]?=some v:=by
      have:=congrArg (fun l:List Value=>l[0]?) hv
      simpa[PF] using this
     have hu0:us[f.offset]?=some u:=by
      have:=congrArg (fun l:List Value=>l[0]?) hu
      simpa[PF] using this
     have hv1:vs.drop (f.offset+1)=vs':=by rw[<-PX,hv];rfl
     have hu1:us.drop (f.offset+1)=us':=by rw[<-PX,hu];rfl
     have heq:=Ba (P:=P) (w:=w) (M:=M) ht hcv hdu hp d
     have ih:=CV d i1 i2 (vs:=vs) (us:=us) hf (by rw[hv1];exact hc) (by rw[hu1];exact hd) hq
     simp only[List.forIn_cons,P7 hname,Sem.run_bind,AG ht hv0,AG ht hu0,Result.andThen_ok,heq]
     cases p with
     |false=>simp
     |true=>
      simp only[PV,Pp,Sem.run_pure,Result.andThen_ok,ih,OZ]
    ·cases he
 |[],_::_,k,cs,ds,b,hf,_,_,_=>by simp[A3] at hf
 |_::_,[],k,cs,ds,b,hf,_,_,_=>by simp[A3] at hf
theorem Ao (d:Nat) {t:TypeId} {fs:Array Field} {kks:List KK} {cs ds:List DV} {vs us:List Value} {b:Bool} (ht:P.underlying t=some (.struct fs)) (hs:P.stoodInHeld t=false) (hf:A3 P 0 fs.toList kks=true) (hc:aI w M cs vs) (hd:aI w M ds us) (he:cr kks cs ds=some b):
  (Op.equalIn (d+1+1) t (.agg vs.toArray) (.agg us.toArray)).run P w= .ok b w:=by
 rw[Op.equalIn]
 simp only[Sem.run_bind,run_underlying ht,Result.andThen_ok,program,Sem.run,hs]
 simp only[O5,Pp,ne_eq,ite_not,Pz,pure_bind]
 rw[<-Array.forIn_toList]
 have key:=fun i1 i2=>CV (P:=P) (w:=w) (M:=M) d i1 i2 (vs:=vs) (us:=us) hf (by simpa using hc) (by simpa using hd) he
 simp only[Sem.run_bind]
 rw[key]
 cases b<;>rfl
theorem K2 {t:TypeId} {fs:Array Field} {vs:List Value} {o n:Nat} (ht:P.underlying t=some (.struct fs)) (hi:(P.info? t).isSome=true) (hn:P.cellsOf t=n):(part t vs.toArray o).run P w= .ok (.agg ((vs.drop o).take n).toArray) w:=by
 simp[part,mM ht,jp,dH hi,hn,List.extract_eq_take_drop]
theorem xY:∀ (n:Nat) {kks:List KK} {cs ds:List DV} {b:Bool},n<=kks.length->cr kks cs ds=some b->∃ p q,cr (kks.take n) (cs.take n) (ds.take n)=some p/\cr (kks.drop n) (cs.drop n) (ds.drop n)=some q/\b=(p&&q)
 |0,kks,cs,ds,b,_,h=>⟨true,b,by simp[cr],by simpa using h,by simp⟩
 |n+1,[],_,_,_,hn,_=>by simp at hn
 |n+1,kk::kks,[],ds,b,_,h=>by cases ds<;>simp[cr] at h
 |n+1,kk::kks,c::cs,[],b,_,h=>by simp[cr] at h
 |n+1,kk::kks,c::cs,d::ds,b,hn,h=>by
  simp only[cr] at h
  split at h
  ·rename_i p q hp hq
   simp only[Oy] at h
   obtain⟨p',q',h1,h2,h3⟩:=xY n (by simpa using hn) hq
   refine⟨p&&p',q', ?_,by simpa using h2, ?_⟩
   ·simp only[Qk,cr,hp,h1]
   ·rw[<-h,h3,Bool.and_assoc]
  ·cases h
theorem w_ (d:Nat) {vs us:List Value} (i1:∀ f:Field,Decidable (f.name= "_")) (i2:∀ x:Bool,Decidable (x=false)):∀ {fs:List Field} {kks:List KK} {k:Nat} {cs ds:List DV} {b:Bool},zN P k fs kks=true->aI w M cs (vs.drop k)->aI w M ds (us.drop k)->cr kks cs ds=some b->
  (forIn fs ((none:Option Bool),()) (fun(f:Field) (__s:Option Bool×Unit)=>
      @ite _ (f.name= "_") (i1 f) (pure (ForInStep.yield (none,())):Sem (ForInStep (Option Bool×Unit)))<|do
       let __do_lift <-part f.type vs.toArray f.offset
       let __do_lift_1 <-part f.type us.toArray f.offset
       let __do_lift <-Op.equalIn (d+1+1) f.type __do_lift __do_lift_1
       @ite _ (__do_lift=false) (i2 __do_lift) (pure (ForInStep.done (some false,()))) (pure (ForInStep.yield (none,()))))).run P w= .ok ((if b then none else some false),()) w
 |[],[],k,cs,ds,b,hf,hc,hd,he=>by
  cases cs with
  |nil=>cases ds with
   |nil=>simp[cr] at he;subst he;simp
   |cons _ _=>simp[cr] at he
  |cons _ _=>simp[cr] at he
 |[],_::_,k,cs,ds,b,hf,_,_,_=>by simp[zN] at hf
 |f::fs,kks,k,cs,ds,b,hf,hc,hd,he=>by
  unfold zN at hf
  simp only[Oz,OI,bne_iff_ne] at hf
  obtain⟨⟨rfl,hname⟩,hf⟩:=hf
  split at hf
  ·rename_i gs ht
   simp only[Oz,Pz,OC,OI] at hf
   obtain⟨⟨⟨⟨⟨hs,hfl⟩,hi⟩,hsz⟩,hle⟩,hf⟩:=hf
   obtain⟨p,q,e1,e2,rfl⟩:=xY gs.size hle he
   obtain⟨c1,c2⟩:=aI.cut gs.size hc
   obtain⟨d1,d2⟩:=aI.cut gs.size hd
   rw[PX] at c2 d2
   have heq:=Ao (P:=P) (w:=w) (M:=M) d ht hs hfl c1 d1 e1
   have ih:=w_ d i1 i2 (vs:=vs) (us:=us) hf c2 d2 e2
   simp only[List.forIn_cons,P7 hname,Sem.run_bind,K2 ht hi hsz,Result.andThen_ok,heq]
   cases p with
   |false=>simp
   |true=>
    simp only[PV,Pp,Sem.run_pure,Result.andThen_ok,ih,OZ]
  ·split at hf
   ·rename_i kk kks'
    simp only[Oz,OI] at hf
    obtain⟨hkk,hf⟩:=hf
    have ht:=sD hkk
    cases cs with
    |nil=>simp[cr] at he
    |cons c cs=>
     cases ds with
     |nil=>simp[cr] at he
     |cons e ds=>
      simp only[cr] at he
      split at he
      ·rename_i p q hp hq
       simp only[Oy] at he
       subst he
       unfold aI at hc hd
       obtain⟨v,vs',hv,hcv,hc⟩:=hc
       obtain⟨u,us',hu,hdu,hd⟩:=hd
       have hv0:vs[f.offset]?=some v:=by
        have:=congrArg (fun l:List Value=>l[0]?) hv
        simpa[PF] using this
       have hu0:us[f.offset]?=some u:=by
        have:=congrArg (fun l:List Value=>l[0]?) hu
        simpa[PF] using this
       have hv1:vs.drop (f.offset+1)=vs':=by rw[<-PX,hv];rfl
       have hu1:us.drop (f.offset+1)=us':=by rw[<-PX,hu];rfl
       have heq:=Ba (P:=P) (w:=w) (M:=M) ht hcv hdu hp (d+1)
       have ih:=w_ d i1 i2 (vs:=vs) (us:=us) hf (by rw[hv1];exact hc) (by rw[hu1];exact hd) hq
       simp only[List.forIn_cons,P7 hname,Sem.run_bind,AG ht hv0,AG ht hu0,Result.andThen_ok,heq]
       cases p with
       |false=>simp
       |true=>
        simp only[PV,Pp,Sem.run_pure,Result.andThen_ok,ih,OZ]
      ·cases he
   ·cases hf
theorem Cv {t:TypeId} {fs:Array Field} {kks:List KK} {cs ds:List DV} {vs us:List Value} {b:Bool} (ht:P.underlying t=some (.struct fs)) (hs:P.stoodInHeld t=false) (hf:zN P 0 fs.toList kks=true) (hc:aI w M cs vs) (hd:aI w M ds us) (he:cr kks cs ds=some b):
  (Op.equal t (.agg vs.toArray) (.agg us.toArray)).run P w= .ok b w:=by
 unfold Op.equal
 rw[show Op.maxDepth=9997+1+1+1 from rfl,Op.equalIn]
 simp only[Sem.run_bind,run_underlying ht,Result.andThen_ok,program,Sem.run,hs]
 simp only[O5,Pp,ne_eq,ite_not,Pz,pure_bind]
 rw[<-Array.forIn_toList]
 have key:=fun i1 i2=>w_ (P:=P) (w:=w) (M:=M) 9997 i1 i2 (vs:=vs) (us:=us) hf (by simpa using hc) (by simpa using hd) he
 simp only[Sem.run_bind]
 rw[key]
 cases b<;>rfl
theorem CW {op:BinOp} {t t2:TypeId} {xo yo:Operand} {fs:Array Field} {kks:List KK} {cs ds:List DV} {b:Bool} (ht:P.underlying t=some (.struct fs)) (hs:P.stoodInHeld t=false) (hg:P.eqGuardType P.depth t=false) (hf:zN P 0 fs.toList kks=true)
  (hx:aQ w M (.agg cs) (a.eval xo)) (hy:aQ w M (.agg ds) (a.eval yo)) (he:cr kks cs ds=some b) (hop:op= .eql\/op= .neq):
  d6 P a ⟨dst,.binOp op t xo yo t2,ty,pos,aft,gd⟩ w M κ (.d (.bool (match op with| .eql=>b|_=> !b))):=by
 unfold aQ at hx hy
 obtain⟨vs,hvx,_,hvs⟩:=hx
 obtain⟨us,hvy,_,hus⟩:=hy
 have heq:=Cv (P:=P) ht hs hf hvs hus he
 have hgd:(eqGuard op t xo yo (.agg vs.toArray) (.agg us.toArray)).run P w= .ok () w:=by
  rcases hop with rfl|rfl<;>simp[eqGuard,program,Sem.run,hg]
 rcases hop with rfl|rfl
 ·exact aB (v:= .bool b) (by simp only[execOp,hvx,hvy,Sem.run_bind,hgd,Result.andThen_ok,binOp,heq,Sem.run_pure]) (by simp[ae,aQ])
 ·exact aB (v:= .bool !b) (by simp only[execOp,hvx,hvy,Sem.run_bind,hgd,Result.andThen_ok,binOp,heq,Sem.run_pure]) (by simp[ae,aQ])
end
