/-
  My text.
-/
import Derived.Test.YteaolfcegaidpaaGreatDoorSZEngD
import Derived.Lib.Strings
import Derived.Laws.BytesArg
import Derived.Laws.Runes
import Derived.Laws.IdiomStrings
namespace Go.Proofs.YteaolfcegaidpaaGreatDoor
set_option linter.unusedSimpArgs false
set_option linter.unusedVariables false
open Go.RowKit
variable {A:Operand} {C:Nat} {D:Value} {O:List DV} {args:Array Operand} {b:Bool} {caps:Array Operand} {cs:List DV} {d:TypeDesc} {e:TypeId} {es:List MapEntry} {f:Operand} {first:Array Operand} {fs:Array Field} {i:Operand} {k k':IntKind} {kk:KK} {kks:List KK} {kt:TypeId} {l:List UInt8} {len:Nat} {m:Int} {ms:Array (String×TypeId)} {n:Int} {o:Nat} {ok:Bool} {op:BinOp} {p:Prop} {r:Nat} {s t t2:TypeId} {ts:Array TypeId} {u:Value} {us:List Value} {v:Value} {vs:List Value} {x:Operand} {xs:List Operand} {y:SV} {z:Value}
def dO (P:Program) (a:Act) (o:Oper) (w:World) (M:Nat->Prop) (κ:Nat->Value) (x:SV):Prop:=
 ∃ v w',(execOp a.eval o).run P w= .ok (.value v) w'/\Below w.heap.size w w'/\ah w' M κ x v
section
variable {P:Program} {a:Act} {w:World} {M:Nat->Prop} {κ:Nat->Value} {dst:Option Tmp} {ty:TypeId} {S:String} {U:Array Edge} {gd:Option (Nat×Bool)}
theorem aH {o:Oper} {x:SV} (h:(execOp a.eval o).run P w= .ok (.value v) w) (hx:ah w M κ x v):dO P a o w M κ x:=⟨v,w,h,Below.refl _ _,hx⟩
theorem L5 (h:ah w M κ y (a.eval x)):dO P a ⟨dst,.move x,ty,S,U,gd⟩ w M κ y:=aH (by simp[execOp]) h
theorem Gg (h:ah w M κ y (a.eval x)):dO P a ⟨dst,.assign x,ty,S,U,gd⟩ w M κ y:=aH (by simp[execOp]) h
theorem C5 {c y:Operand} {t:Bool} {z:SV} (hc:ah w M κ (.d (.bool t)) (a.eval c)) (h:ah w M κ z (if t then a.eval x else a.eval y)):dO P a ⟨dst,.pick c x y,ty,S,U,gd⟩ w M κ z:=by
 simp only[ah,ba] at hc
 refine aH (v:=if t then a.eval x else a.eval y) ?_ h
 simp[execOp,hc,asBool]
theorem nh (h:P.underlying t=some d) (w:World):(isAgg t).run P w= .ok (jF d) w:=by
 simp only[isAgg,Sem.run_bind,run_underlying h,Result.andThen_ok]
 cases d<;>simp[jF]
theorem dv (h:(P.info? t).isSome=true) (w:World):(sizeOf t).run P w= .ok (P.cellsOf t) w:=by
 obtain⟨i,hi⟩:=TX.1 h
 simp[sizeOf,typeInfo,hi,Program.cellsOf]
theorem Gh (h:P.underlying t=some d) (hd:jF d=false) {b:Nat} (hc:w.cell? ⟨b,o,none⟩=some v):(loadVar t ⟨b,o,none⟩).run P w= .ok v w:=by
 simp[loadVar,nh h,hd,hc]
theorem nS (h:P.underlying t=some d) (hd:jF d=true) (hi:(P.info? t).isSome=true) {b:Nat} (hn:P.cellsOf t=vs.length) (hc:∀ j v,vs[j]?=some v->w.cell? ⟨b,o+j,none⟩=some v):(loadVar t ⟨b,o,none⟩).run P w= .ok (.agg vs.toArray) w:=by
 have:=run_loadCells_list (P:=P) w ⟨b,o,none⟩ vs (fun j v hj=>by rw[gy];exact hc j v hj)
 simp[loadVar,nh h,hd,dv hi,hn,this]
theorem AP {b:Nat} (h:P.underlying t=some d) (hd:jF d=false) (hx:a.eval x= .pointer (some ⟨b,o,none⟩)) (hc:w.cell? ⟨b,o,none⟩=some v) (hy:ah w M κ y v):dO P a ⟨dst,.load t x,ty,S,U,gd⟩ w M κ y:=
 aH (v:=v) (by simp[execOp,Instr.loadAt,Instr.sureAddr,hx,Gh h hd hc]) hy
theorem AQ {b:Nat} (h:P.underlying t=some d) (hd:jF d=true) (hi:(P.info? t).isSome=true) (hn:P.cellsOf t=vs.length) (hx:a.eval x= .pointer (some ⟨b,o,none⟩)) (hc:∀ j v,vs[j]?=some v->w.cell? ⟨b,o+j,none⟩=some v) (hy:ah w M κ y (.agg vs.toArray)):dO P a ⟨dst,.load t x,ty,S,U,gd⟩ w M κ y:=
 aH (v:= .agg vs.toArray) (by simp[execOp,Instr.loadAt,Instr.sureAddr,hx,nS h hd hi hn hc]) hy
theorem KM {T:TypeId} (hM:∀ b,M b->b<w.heap.size) (hv:(a.eval x).cells=vs.toArray) (h1:∀ u∈vs,u.oneCell'=true) (hc:aN w M cs vs):
  dO P a ⟨dst,.box T x,ty,S,U,gd⟩ w M κ (.d (.ptr cs)):=by
 refine⟨.pointer (some ⟨w.heap.size,0,none⟩),w.alloc (.cells vs.toArray T), ?_,(Below.refl _ _).alloc (S0 _) _, ?_⟩
 ·simp only[execOp,Instr.box,newVar,newRow,newObj,hv,Sem.run_bind,Sem.run,Result.andThen_ok,Sem.run_pure]
  rfl
 ·simp only[ah,ba]
  refine⟨w.heap.size,0,rfl,fun h=>Nat.lt_irrefl _ (hM _ h),by simp, ?_⟩
  exact b4.of_row (heap_alloc_new w _) (hc.ext (lA.of_below ((Below.refl _ _).alloc (S0 _) _))) h1 oS
theorem AR {i:TypeInfo} (hi:P.info? t=some i) (hz:i.zero=some z) (hv:z.cells=vs.toArray):(execOp a.eval ⟨dst,.alloc t,ty,S,U,gd⟩).run P w= .ok (.value (.pointer (some ⟨w.heap.size,0,none⟩))) (w.alloc (.cells vs.toArray t)):=by
 have f:(zeroValue t).run P w= .ok z w:=by simp[zeroValue,typeInfo,hi,hz]
 simp only[execOp,Instr.alloc,newVar,newRow,newObj,hv,Sem.run_bind,f,Sem.run,Result.andThen_ok,Sem.run_pure]
 rfl
theorem Ho {i:TypeInfo} (hi:P.info? t=some i) (hz:i.zero=some z) (hM:∀ b,M b->b<w.heap.size) (hv:z.cells=vs.toArray) (h1:∀ u∈vs,u.oneCell'=true) (hc:aN w M cs vs):
  dO P a ⟨dst,.alloc t,ty,S,U,gd⟩ w M κ (.d (.ptr cs)):=by
 refine⟨.pointer (some ⟨w.heap.size,0,none⟩),w.alloc (.cells vs.toArray t),AR hi hz hv,(Below.refl _ _).alloc (S0 _) _, ?_⟩
 simp only[ah,ba]
 refine⟨w.heap.size,0,rfl,fun h=>Nat.lt_irrefl _ (hM _ h),by simp, ?_⟩
 exact b4.of_row (heap_alloc_new w _) (hc.ext (lA.of_below ((Below.refl _ _).alloc (S0 _) _))) h1 oS
theorem AU {f:Field} {i:Nat} {b:Nat} (h:P.underlying t=some (.struct fs)) (hf:fs[i]?=some f) (hi:(P.info? f.type).isSome=true) (hn:P.cellsOf f.type≠0) (hx:a.eval x= .pointer (some ⟨b,o,none⟩)) (hy:ah w M κ y (.pointer (some ⟨b,o+f.offset,none⟩))):dO P a ⟨dst,.fieldAddr t x i,ty,S,U,gd⟩ w M κ y:=
 aH (v:= .pointer (some ⟨b,o+f.offset,none⟩)) (by simp[execOp,Instr.fieldAt,Instr.sureAddr,hx,run_underlying h,hf,fieldPlace,dv hi,hn,gy]) hy
theorem C6 (h:P.underlying t=some (.array len e)) (hi:(P.info? e).isSome=true) (h1:P.cellsOf e=1) (hu:P.underlying e=some d) (hd:jF d=false) (hx:a.eval x= .agg vs.toArray) (hn:a.eval i= .int k n) (h0:0<=n) (hl:n<len) (hv:vs[n.toNat]?=some v) (hy:ah w M κ y v):dO P a ⟨dst,.index t x i,ty,S,U,gd⟩ w M κ y:=
 aH (v:=v) (by simp[execOp,Instr.index,hx,hn,asIntOf,run_underlying h,h0,hl,part,nh hu,hd,dv hi,h1,hv]) hy
theorem BM (h:P.underlying t=some (.array len e)) (hi:(P.info? e).isSome=true) (hu:P.underlying e=some d) (hd:jF d=true) (hx:a.eval x= .agg vs.toArray) (hn:a.eval i= .int k n) (h0:0<=n) (hl:n<len) (hy:ah w M κ y (.agg ((vs.drop (n.toNat * P.cellsOf e)).take (P.cellsOf e)).toArray)):dO P a ⟨dst,.index t x i,ty,S,U,gd⟩ w M κ y:=by
 refine aH (v:= .agg ((vs.drop (n.toNat * P.cellsOf e)).take (P.cellsOf e)).toArray) ?_ hy
 simp[execOp,Instr.index,hx,hn,asIntOf,run_underlying h,h0,hl,part,nh hu,hd,dv hi,List.extract_eq_take_drop]
theorem C7 {f:Field} {i:Nat} (h:P.underlying t=some (.struct fs)) (hf:fs[i]?=some f) (hu:P.underlying f.type=some d) (hd:jF d=false) (hx:a.eval x= .agg vs.toArray) (hv:vs[f.offset]?=some v) (hy:ah w M κ y v):dO P a ⟨dst,.field t x i,ty,S,U,gd⟩ w M κ y:=
 aH (v:=v) (by simp[execOp,Instr.field,hx,run_underlying h,hf,part,nh hu,hd,asAgg,hv]) hy
theorem C8 {f:Field} {i:Nat} (h:P.underlying t=some (.struct fs)) (hf:fs[i]?=some f) (hu:P.underlying f.type=some d) (hd:jF d=true) (hi:(P.info? f.type).isSome=true) (hx:a.eval x= .agg vs.toArray) (hy:ah w M κ y (.agg ((vs.drop f.offset).take (P.cellsOf f.type)).toArray)):dO P a ⟨dst,.field t x i,ty,S,U,gd⟩ w M κ y:=by
 refine aH (v:= .agg ((vs.drop f.offset).take (P.cellsOf f.type)).toArray) ?_ hy
 simp[execOp,Instr.field,hx,run_underlying h,hf,part,nh hu,hd,asAgg,dv hi,List.extract_eq_take_drop]
theorem AV {b D:Nat} (h:P.underlying t=some (.slice e)) (hi:(P.info? e).isSome=true) (hx:a.eval x= .slice (some ⟨b,o,none⟩) len D) (hn:a.eval i= .int k n) (h0:0<=n) (h1:n<len) (hy:ah w M κ y (.pointer (some ⟨b,o+n.toNat * P.cellsOf e,none⟩))):
  dO P a ⟨dst,.indexAddr t x i,ty,S,U,gd⟩ w M κ y:=
 aH (v:= .pointer (some ⟨b,o+n.toNat * P.cellsOf e,none⟩)) (by simp[execOp,Instr.indexAt,hx,hn,asIntOf,run_underlying h,dv hi,h0,h1,gy]) hy
theorem IJ {c:UInt8} (h:P.underlying t=some .string) (hx:a.eval x= .string ⟨l.toArray⟩) (hn:a.eval i= .int k n) (h0:0<=n) (hc:l[n.toNat]?=some c):dO P a ⟨dst,.index t x i,ty,S,U,gd⟩ w M κ (.d (.int .u8 c.toNat)):=by
 have hg:(⟨l.toArray⟩:ByteArray)[n.toNat]?=some c:=by
  obtain⟨h9,J⟩:=SY.1 hc
  rw[getElem?_pos (⟨l.toArray⟩:ByteArray) n.toNat h9]
  simp only[SN]
  exact J
 refine aH (v:= .int .u8 c.toNat) ?_ (by simp[ah,ba])
 simp[execOp,Instr.index,hx,hn,asIntOf,run_underlying h,h0,hg]
theorem JH (a b:Int):(a==b)=decide (a=b):=by rw[Ti];simp
theorem Oe (a b:Int):(a !=b)=decide (a≠b):=by rw[Ti];simp
def Hp (P:Program) (t:TypeId) (A f:Operand):DV->Prop
 | .bool _=>P.underlying t=some .bool
 | .raw _=>(pN A=true\/pN f=true)/\∃ ms,P.underlying t=some (.interface ms)
 | .err=>(pN A=true\/pN f=true)/\∃ ms,P.underlying t=some (.interface ms)
 |_=>True
theorem zP (t:TypeId) (hh:P.underlying t=some .bool) (c d:Bool) (n:Nat):(Op.equalIn (n+1) t (.bool c) (.bool d)).run P w= .ok (c==d) w:=by
 rw[Op.equalIn]
 simp[run_underlying hh]
theorem Gi (t:TypeId) (hh:P.underlying t=some (.interface ms)) (n:Nat):(Op.equalIn (n+1) t .nilIface .nilIface).run P w= .ok true w:=by
 rw[Op.equalIn]
 simp[run_underlying hh]
theorem EK (t:TypeId) (hh:P.underlying t=some (.interface ms)) (n:Nat) (u:TypeId) (v:Value):(Op.equalIn (n+1) t (.iface u v) .nilIface).run P w= .ok false w:=by
 rw[Op.equalIn]
 simp[run_underlying hh]
theorem C9 (t:TypeId) (hh:P.underlying t=some .bool) (c d:Bool):(Op.equal t (.bool c) (.bool d)).run P w= .ok (c==d) w:=zP t hh c d 9999
theorem C_ (t:TypeId) (hh:P.underlying t=some (.interface ms)):(Op.equal t .nilIface .nilIface).run P w= .ok true w:=Gi t hh 9999
theorem BN (t:TypeId) (hh:P.underlying t=some (.interface ms)) (u:TypeId) (v:Value):(Op.equal t (.iface u v) .nilIface).run P w= .ok false w:=EK t hh 9999 u v
theorem y2 (t:TypeId) (hh:P.underlying t=some (.pointer e)) (q:Option Addr):(Op.equal t (.pointer q) (.pointer none)).run P w= .ok q.isNone w:=by
 unfold Op.equal
 rw[show Op.maxDepth=9999+1 from rfl,Op.equalIn]
 cases q<;>simp[run_underlying hh]
theorem L6 {x y:DV} {r:DV} (Y:Hp P t A f x) (hu:ba w M x u) (hv:ba w M y v) (h:zN op x y=some (p,r)) (hp:p):
  ∃ z,(do eqGuard op t A f u v;binOp op t u v:Sem Value).run P w= .ok z w/\ba w M r z:=by
 unfold zN at h
 split at h
 ·
  rename_i k m k' n
  simp only[ba] at hu hv
  subst hu hv
  split at h
  ·rename_i hk
   subst hk
   unfold wO at h
   split at h<;>first
    |(simp only[SN,SS] at h;obtain⟨rfl,rfl⟩:=h
      simp[eqGuard,binOp,Op.intArith,Op.intCmp,Op.intDiv,Op.intBits,Hl,ba,JH,Oe,hp];done)
    |(simp only[SN,SS] at h;obtain⟨rfl,rfl⟩:=h
      refine⟨_, ?_,rfl⟩
      simp only[eqGuard,binOp]
      first|rw[Go.shift_shr _ _ _ _ hp.1 hp.2]|rw[Go.shift_shl _ _ _ _ hp.1 hp.2]
      rfl)
    |(cases h;done)
    |skip
  ·split at h
   ·unfold wO at h
    simp only[SN,SS] at h;obtain⟨rfl,rfl⟩:=h
    refine⟨_, ?_,rfl⟩
    simp only[eqGuard,binOp]
    rw[Go.shift_shr _ _ _ _ hp.1 hp.2]
    rfl
   ·unfold wO at h
    simp only[SN,SS] at h;obtain⟨rfl,rfl⟩:=h
    refine⟨_, ?_,rfl⟩
    simp only[eqGuard,binOp]
    rw[Go.shift_shl _ _ _ _ hp.1 hp.2]
    rfl
   ·cases h
 ·
  rename_i m n
  simp only[ba] at hu hv
  subst hu hv
  have I:∀ l:List UInt8,(⟨l.toArray⟩:ByteArray).size=l.length:=fun l=>by simp[ByteArray.size]
  have g:∀ l:List UInt8,(⟨l.toArray⟩:ByteArray).toList=l:=fun l=>by rw[Lib.toList_data]
  have o:∀ l k:List UInt8,(l==k)=decide (l=k):=fun l k=>by rw[Ti];simp
  unfold JF at h
  split at h
  ·simp only[SN,SS] at h;obtain⟨rfl,rfl⟩:=h
   have r6:¬ (((m.length+n.length:Nat):Int)>IntKind.i64.max):=by
    have:IntKind.i64.max=9223372036854775807:=by decide
    omega
   refine⟨.string ⟨(m++n).toArray⟩, ?_,by simp[ba]⟩
   simp only[eqGuard,binOp,Op.stringOp,I,Ul r6]
   simp
   apply ByteArray.ext
   simp
  all_goals first
   |(simp only[SN,SS] at h;obtain⟨rfl,rfl⟩:=h
     simp[eqGuard,binOp,Op.stringOp,ba,g,o];done)
   |(cases h;done)
 ·rename_i m n
  simp only[ba] at hu hv
  subst hu hv
  have q:P.underlying t=some .bool:=Y
  have o:∀ c d:Bool,(c==d)=decide (c=d):=fun c d=>by cases c<;>cases d<;>rfl
  split at h
  ·simp only[SN,SS] at h;obtain⟨rfl,rfl⟩:=h
   exact⟨.bool (decide (m=n)),by simp[eqGuard,binOp,C9 t q,o],by simp[ba]⟩
  ·simp only[SN,SS] at h;obtain⟨rfl,rfl⟩:=h
   exact⟨.bool (decide (m≠n)),by simp[eqGuard,binOp,C9 t q,o],by simp[ba]⟩
  ·cases h
 ·simp only[ba] at hu hv
  subst hu hv
  obtain⟨Y,ms,b⟩:=Y
  have hg:(eqGuard op t A f .nilIface .nilIface).run P w= .ok () w:=by
   rcases Y with Y|Y
   ·cases A<;>simp[pN] at Y
    cases op<;>simp[eqGuard]
   ·cases f<;>simp[pN] at Y
    cases op<;>simp[eqGuard]
  split at h
  ·simp only[SN,SS] at h;obtain⟨rfl,rfl⟩:=h
   exact⟨.bool true,by simp[hg,binOp,C_ t b],by simp[ba]⟩
  ·simp only[SN,SS] at h;obtain⟨rfl,rfl⟩:=h
   exact⟨.bool false,by simp[hg,binOp,C_ t b],by simp[ba]⟩
  ·cases h
 ·simp only[ba] at hu hv
  obtain⟨e,i,rfl⟩:=hu
  subst hv
  obtain⟨Y,ms,b⟩:=Y
  split at h
  ·simp only[SN,SS] at h;obtain⟨rfl,rfl⟩:=h
   exact⟨.bool false,by simp[eqGuard,binOp,BN t b],by simp[ba]⟩
  ·simp only[SN,SS] at h;obtain⟨rfl,rfl⟩:=h
   exact⟨.bool true,by simp[eqGuard,binOp,BN t b],by simp[ba]⟩
  ·cases h
 ·cases h
theorem uD {x y:DV} {r:DV} (Y:Hp P t A f x) (hu:ba w M x (a.eval A)) (hv:ba w M y (a.eval f)) (h:zN op x y=some (p,r)) (hp:p):
  dO P a ⟨dst,.binOp op t A f t2,ty,S,U,gd⟩ w M κ (.d r):=by
 obtain⟨z,hz,hr⟩:=L6 Y hu hv h hp
 simp only[Sem.run_bind] at hz
 exact aH (v:=z) (by simp only[execOp,Sem.run_bind,hz,Result.andThen_ok,Sem.run_pure]) (by simpa[ah] using hr)
theorem KN (hx:a.eval x= .bool b):dO P a ⟨dst,.unOp .not t x,ty,S,U,gd⟩ w M κ (.d (.bool !b)):=
 aH (v:= .bool !b) (by simp[execOp,Op.unary,hx]) (by simp[ah,ba])
theorem KO (hx:a.eval x= .int k n):dO P a ⟨dst,.unOp .neg t x,ty,S,U,gd⟩ w M κ (.d (.int k (k.wrap (0 - n)))):=
 aH (v:= .int k (k.wrap (0 - n))) (by simp[execOp,Op.unary,hx,Op.intArith]) (by simp[ah,ba])
theorem KP (hs:(P.underlying s).isSome=true) (Y:P.underlying t=some (.int k)) (hx:a.eval x= .int k' n):dO P a ⟨dst,.convert s t x,ty,S,U,gd⟩ w M κ (.d (.int k (k.wrap n))):=by
 obtain⟨d',r3⟩:=TX.mp hs
 exact aH (v:= .int k (k.wrap n)) (by simp[execOp,convert,run_underlying r3,run_underlying Y,hx,Conv.intToInt]) (by simp[ah,ba])
theorem IK (hs:P.underlying s=some (.int k)) (Y:P.underlying t=some .string) (hx:a.eval x= .int k' n):dO P a ⟨dst,.convert s t x,ty,S,U,gd⟩ w M κ (.d (.str (Utf8.encode n).data.toList)):=by
 refine aH (v:= .string (Utf8.encode n)) ?_ (by simp only[ah,ba])
 have h:=run_convert_int_string (P:=P) w s t k' n (by rw[hs];rfl) Y
 simp only[execOp,hx,Sem.run_bind,h,Result.andThen_ok,Sem.run_pure]
def Of (w:World) (v:Value) (l:List UInt8):Prop:=∃ X D,v= .slice X l.length D/\(l=[]\/∃ b o,X=some ⟨b,o,none⟩/\∀ (j:Nat) (c:UInt8),l[j]?=some c->w.cell? ⟨b,o+j,none⟩=some (.int .u8 c.toNat))
theorem rY (hs:P.underlying s=some (.slice e)) (J:P.underlying e=some (.int .u8)) (Y:P.underlying t=some .string) (hx:Of w (a.eval x) l):dO P a ⟨dst,.convert s t x,ty,S,U,gd⟩ w M κ (.d (.str l)):=by
 obtain⟨X,D,hv,hl⟩:=hx
 refine aH (v:= .string ⟨l.toArray⟩) ?_ (by simp only[ah,ba])
 have h:(convert s t (.slice X l.length D)).run P w= .ok (.string ⟨l.toArray⟩) w:=by
  rcases hl with rfl|⟨b,o,rfl,hc⟩
  ·rw[TN,run_convert_bytes_string w s t e X 0 D hs J Y]
   cases X<;>simp[Conv.bytesToString,loadCells]
   all_goals rfl
  ·exact run_convert_bytes_back w s t e ⟨b,o,none⟩ D l hs J Y (fun j hj=>by
    have:=hc j l[j] (S3 hj)
    have e2:(⟨b,o,none⟩:Addr).add j=⟨b,o+j,none⟩:=by unfold Addr.add;split<;>simp_all
    rw[e2];exact this)
 simp only[execOp,hv,Sem.run_bind,h,Result.andThen_ok,Sem.run_pure]
theorem IL (hM:∀ b,M b->b<w.heap.size) (hs:P.underlying s=some .string) (Y:P.underlying t=some (.slice e)) (J:P.underlying e=some (.int .u8)) (hx:a.eval x= .string ⟨l.toArray⟩):dO P a ⟨dst,.convert s t x,ty,S,U,gd⟩ w M κ (.d (.slice (l.map fun b=>[.int .u8 b.toNat]))):=by
 have h:=run_bytes_of_string (P:=P) w s t e ⟨l.toArray⟩ hs Y J
 have I:(⟨l.toArray⟩:ByteArray).size=l.length:=by simp[ByteArray.size]
 rw[I] at h
 have w0:=grownCap_ge w l.length 0 e
 refine⟨_,_,by simp only[execOp,hx,Sem.run_bind,h,Result.andThen_ok,Sem.run_pure];rfl,((Below.refl _ _).drew).alloc (S0 _) _, ?_⟩
 simp only[ah,ba]
 refine⟨some ⟨w.heap.size,0,none⟩,grownCap w l.length 0 e,by simp,by simpa using w0,by simp, ?_⟩
 by_cases hl:l=[]
 ·exact .inl (by simp[hl])
 ·refine .inr ⟨w.heap.size,0,1,rfl,fun hb=>Nat.lt_irrefl _ (hM _ hb),by simp, ?_⟩
  have key:∀ (r:List UInt8) (o:Nat),(∀ (j:Nat) (c:UInt8),r[j]?=some c->(w.drew.alloc (.cells (bytesRow ⟨l.toArray⟩ (grownCap w l.length 0 e)) e ((bytesRow ⟨l.toArray⟩ (grownCap w l.length 0 e)).size,(bytesRow ⟨l.toArray⟩ (grownCap w l.length 0 e)).size+1))).cell? ⟨w.heap.size,o+j,none⟩=some (.int .u8 c.toNat))->
    bi (w.drew.alloc (.cells (bytesRow ⟨l.toArray⟩ (grownCap w l.length 0 e)) e ((bytesRow ⟨l.toArray⟩ (grownCap w l.length 0 e)).size,(bytesRow ⟨l.toArray⟩ (grownCap w l.length 0 e)).size+1))) M (r.map fun b=>[.int .u8 b.toNat]) w.heap.size o 1:=by
   intro r
   induction r with
   |nil=>intro o _;simp only[Ui,bi]
   |cons c r ih=>
    intro o hc
    simp only[S5,bi,b4]
    refine⟨rfl,⟨⟨.int .u8 c.toNat,by simpa using hc 0 c rfl,rfl,by simp only[ba]⟩,trivial⟩,ih (o+1) fun j d hj=> ?_⟩
    have:=hc (j+1) d (by simpa using hj)
    rwa[show o+(j+1)=o+1+j by omega] at this
  refine key l 0 fun j c hj=> ?_
  have qu:j<(⟨l.toArray⟩:ByteArray).data.size:=by have:=(SY.1 hj).1;simpa using this
  have hb:=bytesRow_at ⟨l.toArray⟩ (grownCap w l.length 0 e) j qu
  have hc:(⟨l.toArray⟩:ByteArray).data[j]=c:=by
   have:=SY.1 hj
   obtain⟨h1,h2⟩:=this
   simpa using h2
  rw[hc] at hb
  have f:=heap_alloc_new w.drew (.cells (bytesRow ⟨l.toArray⟩ (grownCap w l.length 0 e)) e ((bytesRow ⟨l.toArray⟩ (grownCap w l.length 0 e)).size,(bytesRow ⟨l.toArray⟩ (grownCap w l.length 0 e)).size+1))
  have g:(w.drew.alloc (.cells (bytesRow ⟨l.toArray⟩ (grownCap w l.length 0 e)) e ((bytesRow ⟨l.toArray⟩ (grownCap w l.length 0 e)).size,(bytesRow ⟨l.toArray⟩ (grownCap w l.length 0 e)).size+1))).heap[w.heap.size]?=some (.cells (bytesRow ⟨l.toArray⟩ (grownCap w l.length 0 e)) e ((bytesRow ⟨l.toArray⟩ (grownCap w l.length 0 e)).size,(bytesRow ⟨l.toArray⟩ (grownCap w l.length 0 e)).size+1)):=f
  unfold World.cell?
  simp only[g,TJ]
  exact hb
theorem Fe {i:Nat} (hx:a.eval x= .tuple vs.toArray) (hv:vs[i]?=some v) (hy:ah w M κ y v):dO P a ⟨dst,.extract x i,ty,S,U,gd⟩ w M κ y:=
 aH (v:=v) (by simp[execOp,Instr.extract,hx,hv]) hy
theorem hR (d:Operand->Value) (b:Builtin) (args:Array Operand) (ts:Array TypeId):∃ cs,(execOp d ⟨dst,.call {callee:= .builtin b,args,argTypes:=ts},ty,S,U,gd⟩).run P w=
  (builtin b ts ty cs (args.map d)).run P w:=⟨_,by simp only[execOp,resolve,Sem.run_bind,Sem.run_pure,Result.andThen_ok,invoke];rfl⟩
theorem JI (l:List UInt8):(⟨l.toArray⟩:ByteArray).size=l.length:=by
 show l.toArray.size=_
 simp
theorem jT (ha:args.toList=[x]) (Q:ts.toList=[t]) {b:Option Addr} {n c:Nat} (Y:P.underlying t=some (.slice e)) (hx:a.eval x= .slice b n c):
  dO P a ⟨dst,.call {callee:= .builtin .len,args,argTypes:=ts},ty,S,U,gd⟩ w M κ (.d (.int .i64 n)):=by
 have e1:args= #[x]:=by rw[<-TP];exact ha
 have e2:ts= #[t]:=by rw[<-TP];exact Q
 subst e1 e2
 exact aH (v:= .int .i64 n) (by obtain⟨cs,r4⟩:=hR (P:=P) (w:=w) (dst:=dst) (ty:=ty) (S:=S) (U:=U) (gd:=gd) a.eval .len #[x] #[t];rw[r4];simp[builtin,Builtin.len_,run_underlying Y,hx,goInt]) (by simp[ah,ba])
theorem EL (ha:args.toList=[x]) (Q:ts.toList=[t]) (Y:P.underlying t=some .string) (hx:a.eval x= .string ⟨l.toArray⟩):
  dO P a ⟨dst,.call {callee:= .builtin .len,args,argTypes:=ts},ty,S,U,gd⟩ w M κ (.d (.int .i64 l.length)):=by
 have e1:args= #[x]:=by rw[<-TP];exact ha
 have e2:ts= #[t]:=by rw[<-TP];exact Q
 subst e1 e2
 exact aH (v:= .int .i64 l.length) (by obtain⟨cs,r4⟩:=hR (P:=P) (w:=w) (dst:=dst) (ty:=ty) (S:=S) (U:=U) (gd:=gd) a.eval .len #[x] #[t];rw[r4];simp[builtin,Builtin.len_,run_underlying Y,hx,goInt,JI]) (by simp[ah,ba])
theorem EM {k:TypeId} (ha:args.toList=[x]) (Q:ts.toList=[t]) (Y:P.underlying t=some (.map k e)) (hx:a.eval x= .map (some r)) (hr:w.heap[r]?=some (.map es.toArray C)):
  dO P a ⟨dst,.call {callee:= .builtin .len,args,argTypes:=ts},ty,S,U,gd⟩ w M κ (.d (.int .i64 es.length)):=by
 have e1:args= #[x]:=by rw[<-TP];exact ha
 have e2:ts= #[t]:=by rw[<-TP];exact Q
 subst e1 e2
 exact aH (v:= .int .i64 es.length) (by obtain⟨cs,r4⟩:=hR (P:=P) (w:=w) (dst:=dst) (ty:=ty) (S:=S) (U:=U) (gd:=gd) a.eval .len #[x] #[t];rw[r4];simp[builtin,Builtin.len_,run_underlying Y,hx,goInt,getObj,Sem.run,hr]) (by simp[ah,ba])
theorem BO:∀ (l:List DV) (vs:List Value) (m r:Int),aN w M l vs->vh m l=some r->(vs.foldlM Builtin.min2 (.int .i64 m)).run P w= .ok (.int .i64 r) w
 |[],vs,m,r,hl,h=>by
  unfold aN at hl;subst hl
  simp only[vh,SN] at h;subst h;rfl
 |x::l,vs,m,r,hl,h=>by
  unfold aN at hl
  obtain⟨u,us,rfl,h1,h2⟩:=hl
  unfold vh at h
  split at h
  ·cases ‹_::_=_›
  ·rename_i B
   simp only[TA] at B
   obtain⟨rfl,rfl⟩:=B
   simp only[ba] at h1
   subst h1
   simp only[List.foldlM_cons,Builtin.min2,pure_bind]
   exact BO _ _ _ _ h2 h
  ·cases h
theorem BP:∀ (l:List DV) (vs:List Value) (m r:Int),aN w M l vs->vi m l=some r->(vs.foldlM Builtin.max2 (.int .i64 m)).run P w= .ok (.int .i64 r) w
 |[],vs,m,r,hl,h=>by
  unfold aN at hl;subst hl
  simp only[vi,SN] at h;subst h;rfl
 |x::l,vs,m,r,hl,h=>by
  unfold aN at hl
  obtain⟨u,us,rfl,h1,h2⟩:=hl
  unfold vi at h
  split at h
  ·cases ‹_::_=_›
  ·rename_i B
   simp only[TA] at B
   obtain⟨rfl,rfl⟩:=B
   simp only[ba] at h1
   subst h1
   simp only[List.foldlM_cons,Builtin.max2,pure_bind]
   exact BP _ _ _ _ h2 h
  ·cases h
theorem IM (ha:args.toList=x::xs) {r:Int} {l:List DV} (hx:a.eval x= .int .i64 m) (hl:aN w M l (xs.map a.eval)) (h:vh m l=some r):
  dO P a ⟨dst,.call {callee:= .builtin .min,args,argTypes:=ts},ty,S,U,gd⟩ w M κ (.d (.int .i64 r)):=by
 refine aH (v:= .int .i64 r) ?_ (by simp[ah,ba])
 have:=BO (P:=P) l _ m r hl h
 obtain⟨cs,r4⟩:=hR (P:=P) (w:=w) (dst:=dst) (ty:=ty) (S:=S) (U:=U) (gd:=gd) a.eval .min args ts
 rw[r4]
 simp only[builtin,Builtin.min_,Array.toList_map,ha,S5,hx,Sem.run_bind,this,Result.andThen_ok,Sem.run_pure]
theorem IO (ha:args.toList=x::xs) {r:Int} {l:List DV} (hx:a.eval x= .int .i64 m) (hl:aN w M l (xs.map a.eval)) (h:vi m l=some r):
  dO P a ⟨dst,.call {callee:= .builtin .max,args,argTypes:=ts},ty,S,U,gd⟩ w M κ (.d (.int .i64 r)):=by
 refine aH (v:= .int .i64 r) ?_ (by simp[ah,ba])
 have:=BP (P:=P) l _ m r hl h
 obtain⟨cs,r4⟩:=hR (P:=P) (w:=w) (dst:=dst) (ty:=ty) (S:=S) (U:=U) (gd:=gd) a.eval .max args ts
 rw[r4]
 simp only[builtin,Builtin.max_,Array.toList_map,ha,S5,hx,Sem.run_bind,this,Result.andThen_ok,Sem.run_pure]
theorem Hq {f:FuncId} (h0:first.size=0) {ids:List Nat} (hl:caps.toList.map a.eval=ids.map κ) (hb:∀ i∈ids,∃ b,κ i= .pointer (some ⟨b,0,none⟩)):dO P a ⟨dst,.makeFunc (.func f) first caps,ty,S,U,gd⟩ w M κ (.clo f ids):=by
 have c:first= #[]:=Array.size_eq_zero_iff.1 h0
 subst c
 refine aH (v:= .func (.func f) #[] (ids.map κ).toArray) ?_ (by simp only[ah,true_and];exact hb)
 rw[<-hl]
 have e:caps.map a.eval=(caps.toList.map a.eval).toArray:=by rw[<-TP];simp
 simp[execOp,Instr.makeFunc,e]
theorem IP {f:FuncId} (h0:first.size=0) {l:List DV} (hl:aN w M l (caps.toList.map a.eval)):dO P a ⟨dst,.makeFunc (.func f) first caps,ty,S,U,gd⟩ w M κ (.d (.fn f l)):=by
 have e1:first= #[]:=by simpa using h0
 subst e1
 refine aH (v:= .func (.func f) #[] (caps.toList.map a.eval).toArray) ?_ (by simp only[ah,ba];exact⟨_,rfl,hl⟩)
 have e:caps.map a.eval=(caps.toList.map a.eval).toArray:=by rw[<-TP];simp
 simp[execOp,Instr.makeFunc,e]
theorem AY (a b:List UInt8):((⟨a.toArray⟩:ByteArray)==⟨b.toArray⟩)=decide (a=b):=by
 show ByteArray.beq _ _=_
 rw[Ti]
 simp[ByteArray.beq]
theorem Ff {x:DV} (hf:kk.fits x=true) (hr:ba w M x v):dq x=some v:=by
 cases kk<;>cases x<;>simp[KK.fits] at hf<;>simp only[ba] at hr<;>subst hr<;>rfl
def KK.desc:KK->TypeDesc
 | .str=> .string
 | .int k=> .int k
 | .bool=> .bool
theorem uE (h:EJ P t=some kk):P.underlying t=some kk.desc:=by
 unfold EJ at h
 split at h<;>simp at h<;>subst h<;>simpa[KK.desc]
theorem zQ {x k:DV} {c:Value} (h1:kk.fits x=true) (h2:kk.fits k=true) (E:dq x=some D) (h4:dq k=some c):Instr.sameNow kk.desc D c=some (zO x k):=by
 cases kk with
 |str=>
  cases x<;>simp[KK.fits] at h1
  cases k<;>simp[KK.fits] at h2
  rename_i a b
  simp[dq] at E h4
  subst E h4
  simp only[Instr.sameNow,KK.desc,zO,SN]
  exact AY a b
 |int q=>
  cases x<;>simp[KK.fits] at h1
  cases k<;>simp[KK.fits] at h2
  rename_i a b
  simp[dq] at E h4
  subst h1 h2 E h4
  simp only[Instr.sameNow,KK.desc,zO,T6,SN]
  rw[Ti]
  simp
 |bool=>
  cases x<;>simp[KK.fits] at h1
  cases k<;>simp[KK.fits] at h2
  rename_i a b
  simp[dq] at E h4
  subst E h4
  simp only[Instr.sameNow,KK.desc,zO,SN]
  cases a<;>cases b<;>rfl
theorem AZ {kk:KK} {x:DV} {D:Value} (h1:kk.fits x=true) (E:dq x=some D):∀ {kv:List (DV×SV)} {es:List MapEntry} {F:List Nat} (i:Nat),bH w M κ kk kv es F->oR kv x=none->Instr.findNow kk.desc D es i=some none
 |[],es,F,i,Z,_=>by unfold bH at Z;obtain⟨rfl,_⟩:=Z;rfl
 |(k,d)::kv,es,F,i,Z,hg=>by
  unfold bH at Z
  obtain⟨e,T,z,I,rfl,_,h2,h4,hv,Z⟩:=Z
  simp only[oR] at hg
  split at hg
  ·cases hg
  ·rename_i A
   simp only[Uk] at A
   simp only[Instr.findNow,zQ h1 h2 E h4,A]
   exact AZ h1 E (i+1) Z hg
theorem A0 {kk:KK} {x:DV} {d:SV} {D:Value} (h1:kk.fits x=true) (E:dq x=some D):∀ {kv:List (DV×SV)} {es:List MapEntry} {F:List Nat} (i:Nat),bH w M κ kk kv es F->oR kv x=some d->
  ∃ j e q R s,es[j]?=some e/\Instr.findNow kk.desc D es i=some (some (i+j,e.val))/\F=q++R++s/\aQ w M κ d e.val R/\e.key=D/\
   ∀ (d':SV) (v':Value) (G:List Nat),aQ w M κ d' v' G->bH w M κ kk (nR kv x d') (es.modify j fun e=>{e with key:=D,val:=v'}) (q++G++s)
 |[],es,F,i,Z,hg=>by simp[oR] at hg
 |(k,d0)::kv,es,F,i,Z,hg=>by
  unfold bH at Z
  obtain⟨e,T,z,I,rfl,rfl,h2,h4,hv,Z⟩:=Z
  simp only[oR] at hg
  have L:=zQ h1 h2 E h4
  split at hg
  ·rename_i B
   simp only[SN] at hg;subst hg
   have f:e.key=D:=by
    have:dq x=dq k:=by
     cases x<;>cases k<;>simp_all [zO,dq]
    rw[this,h4] at E;simpa using E
   refine⟨0,e,[],z,I,by simp,by simp[Instr.findNow,L,B],by simp,hv,f,fun d' v' G hr=> ?_⟩
   simp only[nR,B,T6,List.modify_zero_cons]
   unfold bH
   exact⟨_,T,G,I,rfl,by simp,h1,E,hr,Z⟩
  ·rename_i A
   simp only[Uk] at A
   obtain⟨j,W,q,R,s,g1,g2,rfl,g3,g4,g5⟩:=A0 h1 E (i+1) Z hg
   refine⟨j+1,W,z++q,R,s,by simpa using g1, ?_,by simp,g3,g4,fun d' v' G hr=> ?_⟩
   ·simp only[Instr.findNow,L,A,g2]
    rw[show i+1+j=i+(j+1) by omega]
   ·simp only[nR,A,Tj,Tv,List.modify_succ_cons]
    unfold bH
    exact⟨e,_,z,q++G++s,rfl,by simp,h2,h4,hv,g5 d' v' G hr⟩
theorem Hr {kk:KK} {x:DV} {D:Value} (h1:kk.fits x=true) (E:dq x=some D) {b:Nat}:∀ {kv:List (DV×SV)} {es:List MapEntry} {F:List Nat},bH w M κ kk kv es F->oR kv x=none->∀ (d':SV) (v':Value) (G:List Nat),aQ w M κ d' v' G->bH w M κ kk (nR kv x d') (es++[{key:=D,val:=v',born:=b}]) (F++G)
 |[],es,F,Z,_,d',v',G,hr=>by
  unfold bH at Z;obtain⟨rfl,rfl⟩:=Z
  simp only[nR,Tb]
  unfold bH
  exact⟨_,[],G,[],rfl,by simp,h1,E,hr,by unfold bH;exact⟨rfl,rfl⟩⟩
 |(k,d)::kv,es,F,Z,hg,d',v',G,hr=>by
  unfold bH at Z
  obtain⟨e,T,z,I,rfl,rfl,h2,h4,hv,Z⟩:=Z
  simp only[oR] at hg
  split at hg
  ·cases hg
  ·rename_i A
   simp only[Uk] at A
   simp only[nR,A,Tj,Tv,S_]
   unfold bH
   exact⟨e,_,z,I++G,rfl,by simp,h2,h4,hv,Hr h1 E Z hg d' v' G hr⟩
theorem rZ (h:P.underlying t=some kk.desc) (v:Value) (n:Nat):(Instr.checkKey b (n+1) t v).run P w= .ok () w:=by
 rw[Instr.checkKey]
 cases kk<;>simp[run_underlying h,KK.desc]
theorem wP (h:P.underlying t=some kk.desc) {r:Option (Nat×Value)} (hf:Instr.findNow kk.desc D es 0=some r):(Instr.findKey t D es).run P w= .ok r w:=by
 simp[Instr.findKey,run_underlying h,hf]
theorem Fg {z:SV} (h:Hm P e z=true):∃ v,(zeroValue e).run P w= .ok v w/\ah w M κ z v:=by
 unfold Hm at h
 split at h
 ·rename_i i hi
  cases hz:i.zero with
  |none=>simp[hz] at h
  |some v=>
   rw[hz] at h
   exact⟨v,by simp[zeroValue,typeInfo,hi,hz],pM h⟩
 ·cases h
theorem Da {z:SV} {d:DV} {kv:List (DV×SV)} {F:List Nat} (Y:P.underlying t=some (.map kt e)) (hk:EJ P kt=some kk) (hz:Hm P e z=true) (hx:a.eval x= .map (some r)) (hr:w.heap[r]?=some (.map es.toArray C)) (Z:bH w M κ kk kv es F) (hf:kk.fits d=true) (r6:(oU kv d z).noOwn=true) (hd:ba w M d (a.eval i)):
  dO P a ⟨dst,.lookup t x i ok,ty,S,U,gd⟩ w M κ (if ok then .tup [oU kv d z,.d (.bool (C3 kv d))] else oU kv d z):=by
 have h:=uE hk
 have m:=Ff hf hd
 have p:∀ b,(Instr.checkKey b 10000 kt (a.eval i)).run P w= .ok () w:=fun b=>rZ h _ 9999
 have I:(getObj r).run P w= .ok (.map es.toArray C) w:=by simp[getObj,Sem.run,hr]
 have c:∀ (o:SV) (u:Value) (b:Bool),ah w M κ o u->ah w M κ (if ok then .tup [o,.d (.bool b)] else o) (if ok then Value.tuple #[u,.bool b] else u):=fun o u b hu=>by
  cases ok with
  |false=>simpa using hu
  |true=>
   simp only[T6,ah,ba,an]
   exact⟨[u,.bool b],rfl,u,[.bool b],rfl,hu,.bool b,[],rfl,rfl,rfl⟩
 cases hg:oR kv d with
 |none=>
  obtain⟨g,f,k⟩:=Fg (w:=w) (M:=M) (κ:=κ) hz
  have l:=wP (P:=P) (w:=w) h (AZ hf m 0 Z hg)
  simp only[oU,C3,hg,T8,Option.isSome_none]
  refine aH (v:=if ok then Value.tuple #[g,.bool false] else g) ?_ (c z g false k)
  simp only[execOp,Instr.lookup,Sem.run_bind,run_underlying Y,Result.andThen_ok,hx,I,Sem.run_pure,p,l,f]
 |some d'=>
  obtain⟨j,W,_,_,_,_,g2,_,g3,_,_⟩:=A0 hf m 0 Z hg
  have l:=wP (P:=P) (w:=w) h g2
  simp only[oU,C3,hg,TI,Option.isSome_some] at r6⊢
  refine aH (v:=if ok then Value.tuple #[W.val,.bool true] else W.val) ?_ (c d' W.val true (aQ.to_S _ _ _ r6 g3).1)
  simp only[execOp,Instr.lookup,Sem.run_bind,run_underlying Y,Result.andThen_ok,hx,I,Sem.run_pure,p,l]
theorem Hs {z:SV} {d:DV} (Y:P.underlying t=some (.map kt e)) (hk:EJ P kt=some kk) (hz:Hm P e z=true) (hx:a.eval x= .map none) (hf:kk.fits d=true) (hd:ba w M d (a.eval i)):
  dO P a ⟨dst,.lookup t x i ok,ty,S,U,gd⟩ w M κ (if ok then .tup [oU [] d z,.d (.bool (C3 [] d))] else oU [] d z):=by
 have h:=uE hk
 have p:∀ b,(Instr.checkKey b 10000 kt (a.eval i)).run P w= .ok () w:=fun b=>rZ h _ 9999
 obtain⟨g,f,k⟩:=Fg (w:=w) (M:=M) (κ:=κ) hz
 refine aH (v:=if ok then Value.tuple #[g,.bool false] else g) ?_ ?_
 ·have l:(Instr.findKey kt (a.eval i) []).run P w= .ok none w:=wP h rfl
  simp only[execOp,Instr.lookup,Sem.run_bind,run_underlying Y,Result.andThen_ok,hx,Sem.run_pure,p,l,f]
 ·rw[show oU [] d z=z from rfl,show C3 [] d=false from rfl]
  cases ok with
  |false=>simpa using k
  |true=>
   simp only[T6,ah,ba,an]
   exact⟨[g,.bool false],rfl,g,[.bool false],rfl,k,.bool false,[],rfl,rfl,rfl⟩
theorem Fh {kk:KK}:∀ {ks vs:List DV} {es:List MapEntry},ks.all kk.fits=true->pL ks vs es->bH w M κ kk (ks.zip (vs.map .d)) es []
 |[],[],[],_,_=>by simp[bH]
 |k::ks,v::vs,e::es,hf,h=>by
  simp only[pL] at h
  simp only[Uy,SR] at hf
  simp only[S5,UO]
  unfold bH
  refine⟨e,es,[],[],rfl,rfl,hf.1,h.1, ?_,Fh hf.2 h.2.2⟩
  have:=h.2.1
  cases v<;>simp[dq] at this<;>(rw[<-this];unfold aQ ah ba;exact⟨rfl,rfl⟩)
 |[],_::_,_,_,h=>by simp[pL] at h
 |[],[],_::_,_,h=>by simp[pL] at h
 |_::_,[],_,_,h=>by simp[pL] at h
 |_::_,_::_,[],_,h=>by simp[pL] at h
theorem Db {x y:DV} (Y:P.underlying t=some kk.desc) (hu:ba w M x u) (hv:ba w M y v) (h:ry kk x y=some b) (d:Nat):(Op.equalIn (d+1) t u v).run P w= .ok b w:=by
 cases kk with
 |str=>
  cases x<;>simp[ry] at h
  cases y<;>simp[ry] at h
  simp only[ba] at hu hv
  subst hu hv h
  rw[Op.equalIn]
  simp only[Sem.run_bind,run_underlying Y,Result.andThen_ok,KK.desc,Sem.run_pure,AY]
 |int k=>
  cases x<;>simp[ry] at h
  cases y<;>simp[ry] at h
  obtain⟨⟨rfl,rfl⟩,h⟩:=h
  simp only[ba] at hu hv
  subst hu hv h
  rw[Op.equalIn]
  simp[run_underlying Y,KK.desc,JH]
 |bool=>
  cases x<;>simp[ry] at h
  cases y<;>simp[ry] at h
  rename_i p q
  simp only[ba] at hu hv
  subst hu hv h
  rw[zP t Y]
  cases p<;>cases q<;>rfl
theorem CK (Y:P.underlying t=some kk.desc) (hv:vs[o]?=some v):(part t vs.toArray o).run P w= .ok v w:=by
 have:jF kk.desc=false:=by cases kk<;>rfl
 simp[part,nh Y,this,hv]
theorem Fi (d:Nat) {vs us:List Value} (n:∀ f:Field,Decidable (f.name= "_")) (i2:∀ x:Bool,Decidable (x=false)):∀ {fs:List Field} {kks:List KK} {k:Nat} {cs O:List DV} {b:Bool},C4 P k fs kks=true->aN w M cs (vs.drop k)->aN w M O (us.drop k)->cD kks cs O=some b->
  (forIn fs ((none:Option Bool),()) (fun(f:Field) (y:Option Bool×Unit)=>
      @ite _ (f.name= "_") (n f) (pure (ForInStep.yield (none,())):Sem (ForInStep (Option Bool×Unit)))<|do
       let __do_lift <-part f.type vs.toArray f.offset
       let __do_lift_1 <-part f.type us.toArray f.offset
       let __do_lift <-Op.equalIn (d+1) f.type __do_lift __do_lift_1
       @ite _ (__do_lift=false) (i2 __do_lift) (pure (ForInStep.done (some false,()))) (pure (ForInStep.yield (none,()))))).run P w= .ok ((if b then none else some false),()) w
 |[],[],k,cs,O,b,hf,hc,hd,J=>by
  cases cs with
  |nil=>cases O with
   |nil=>simp[cD] at J;subst J;simp
   |cons _ _=>simp[cD] at J
  |cons _ _=>simp[cD] at J
 |f::fs,kk::kks,k,cs,O,b,hf,hc,hd,J=>by
  simp only[C4,SR,S1,bne_iff_ne] at hf
  obtain⟨⟨⟨rfl,h⟩,i⟩,hf⟩:=hf
  have Y:=uE i
  cases cs with
  |nil=>simp[cD] at J
  |cons c cs=>
   cases O with
   |nil=>simp[cD] at J
   |cons e O=>
    simp only[cD] at J
    split at J
    ·rename_i p q hp hq
     simp only[SN] at J
     subst J
     unfold aN at hc hd
     obtain⟨v,A,hv,r,hc⟩:=hc
     obtain⟨u,g,hu,s,hd⟩:=hd
     have m:vs[f.offset]?=some v:=by
      have:=congrArg (fun l:List Value=>l[0]?) hv
      simpa[T0] using this
     have t:us[f.offset]?=some u:=by
      have:=congrArg (fun l:List Value=>l[0]?) hu
      simpa[T0] using this
     have s0:vs.drop (f.offset+1)=A:=by rw[<-Ua,hv];rfl
     have E:us.drop (f.offset+1)=g:=by rw[<-Ua,hu];rfl
     have B:=Db (P:=P) (w:=w) (M:=M) Y r s hp d
     have ih:=Fi d n i2 (vs:=vs) (us:=us) hf (by rw[s0];exact hc) (by rw[E];exact hd) hq
     simp only[List.forIn_cons,Ul h,Sem.run_bind,CK Y m,CK Y t,Result.andThen_ok,B]
     cases p with
     |false=>simp
     |true=>
      simp only[Uc,Tv,Sem.run_pure,Result.andThen_ok,ih,S8]
    ·cases J
 |[],_::_,k,cs,O,b,hf,_,_,_=>by simp[C4] at hf
 |_::_,[],k,cs,O,b,hf,_,_,_=>by simp[C4] at hf
theorem Cj (d:Nat) (Y:P.underlying t=some (.struct fs)) (hs:P.stoodInHeld t=false) (hf:C4 P 0 fs.toList kks=true) (hc:aN w M cs vs) (hd:aN w M O us) (J:cD kks cs O=some b):
  (Op.equalIn (d+1+1) t (.agg vs.toArray) (.agg us.toArray)).run P w= .ok b w:=by
 rw[Op.equalIn]
 simp only[Sem.run_bind,run_underlying Y,Result.andThen_ok,program,Sem.run,hs]
 simp only[Tj,Tv,ne_eq,ite_not,TR,pure_bind]
 rw[<-Array.forIn_toList]
 have key:=fun n i2=>Fi (P:=P) (w:=w) (M:=M) d n i2 (vs:=vs) (us:=us) hf (by simpa using hc) (by simpa using hd) J
 simp only[Sem.run_bind]
 rw[key]
 cases b<;>rfl
theorem Og {n:Nat} (Y:P.underlying t=some (.struct fs)) (hi:(P.info? t).isSome=true) (hn:P.cellsOf t=n):(part t vs.toArray o).run P w= .ok (.agg ((vs.drop o).take n).toArray) w:=by
 simp[part,nh Y,jF,dv hi,hn,List.extract_eq_take_drop]
theorem zR:∀ (n:Nat) {kks:List KK} {cs O:List DV} {b:Bool},n<=kks.length->cD kks cs O=some b->∃ p q,cD (kks.take n) (cs.take n) (O.take n)=some p/\cD (kks.drop n) (cs.drop n) (O.drop n)=some q/\b=(p&&q)
 |0,kks,cs,O,b,_,h=>⟨true,b,by simp[cD],by simpa using h,by simp⟩
 |n+1,[],_,_,_,hn,_=>by simp at hn
 |n+1,kk::kks,[],O,b,_,h=>by cases O<;>simp[cD] at h
 |n+1,kk::kks,c::cs,[],b,_,h=>by simp[cD] at h
 |n+1,kk::kks,c::cs,d::O,b,hn,h=>by
  simp only[cD] at h
  split at h
  ·rename_i p q hp hq
   simp only[SN] at h
   obtain⟨e,f,h1,h2,E⟩:=zR n (by simpa using hn) hq
   refine⟨p&&e,f, ?_,by simpa using h2, ?_⟩
   ·simp only[Uz,cD,hp,h1]
   ·rw[<-h,E,Bool.and_assoc]
  ·cases h
theorem y3 (d:Nat) {vs us:List Value} (n:∀ f:Field,Decidable (f.name= "_")) (i2:∀ x:Bool,Decidable (x=false)):∀ {fs:List Field} {kks:List KK} {k:Nat} {cs O:List DV} {b:Bool},BL P k fs kks=true->aN w M cs (vs.drop k)->aN w M O (us.drop k)->cD kks cs O=some b->
  (forIn fs ((none:Option Bool),()) (fun(f:Field) (y:Option Bool×Unit)=>
      @ite _ (f.name= "_") (n f) (pure (ForInStep.yield (none,())):Sem (ForInStep (Option Bool×Unit)))<|do
       let __do_lift <-part f.type vs.toArray f.offset
       let __do_lift_1 <-part f.type us.toArray f.offset
       let __do_lift <-Op.equalIn (d+1+1) f.type __do_lift __do_lift_1
       @ite _ (__do_lift=false) (i2 __do_lift) (pure (ForInStep.done (some false,()))) (pure (ForInStep.yield (none,()))))).run P w= .ok ((if b then none else some false),()) w
 |[],[],k,cs,O,b,hf,hc,hd,J=>by
  cases cs with
  |nil=>cases O with
   |nil=>simp[cD] at J;subst J;simp
   |cons _ _=>simp[cD] at J
  |cons _ _=>simp[cD] at J
 |[],_::_,k,cs,O,b,hf,_,_,_=>by simp[BL] at hf
 |f::fs,kks,k,cs,O,b,hf,hc,hd,J=>by
  unfold BL at hf
  simp only[SR,S1,bne_iff_ne] at hf
  obtain⟨⟨rfl,h⟩,hf⟩:=hf
  split at hf
  ·rename_i gs Y
   simp only[SR,TR,SU,S1] at hf
   obtain⟨⟨⟨⟨⟨hs,C⟩,hi⟩,I⟩,r9⟩,hf⟩:=hf
   obtain⟨p,q,e1,e2,rfl⟩:=zR gs.size r9 J
   obtain⟨c1,z⟩:=aN.cut gs.size hc
   obtain⟨o,d2⟩:=aN.cut gs.size hd
   rw[Ua] at z d2
   have B:=Cj (P:=P) (w:=w) (M:=M) d Y hs C c1 o e1
   have ih:=y3 d n i2 (vs:=vs) (us:=us) hf z d2 e2
   simp only[List.forIn_cons,Ul h,Sem.run_bind,Og Y hi I,Result.andThen_ok,B]
   cases p with
   |false=>simp
   |true=>
    simp only[Uc,Tv,Sem.run_pure,Result.andThen_ok,ih,S8]
  ·split at hf
   ·rename_i kk j
    simp only[SR,S1] at hf
    obtain⟨i,hf⟩:=hf
    have Y:=uE i
    cases cs with
    |nil=>simp[cD] at J
    |cons c cs=>
     cases O with
     |nil=>simp[cD] at J
     |cons e O=>
      simp only[cD] at J
      split at J
      ·rename_i p q hp hq
       simp only[SN] at J
       subst J
       unfold aN at hc hd
       obtain⟨v,A,hv,r,hc⟩:=hc
       obtain⟨u,g,hu,s,hd⟩:=hd
       have m:vs[f.offset]?=some v:=by
        have:=congrArg (fun l:List Value=>l[0]?) hv
        simpa[T0] using this
       have t:us[f.offset]?=some u:=by
        have:=congrArg (fun l:List Value=>l[0]?) hu
        simpa[T0] using this
       have s0:vs.drop (f.offset+1)=A:=by rw[<-Ua,hv];rfl
       have E:us.drop (f.offset+1)=g:=by rw[<-Ua,hu];rfl
       have B:=Db (P:=P) (w:=w) (M:=M) Y r s hp (d+1)
       have ih:=y3 d n i2 (vs:=vs) (us:=us) hf (by rw[s0];exact hc) (by rw[E];exact hd) hq
       simp only[List.forIn_cons,Ul h,Sem.run_bind,CK Y m,CK Y t,Result.andThen_ok,B]
       cases p with
       |false=>simp
       |true=>
        simp only[Uc,Tv,Sem.run_pure,Result.andThen_ok,ih,S8]
      ·cases J
   ·cases hf
theorem EN (Y:P.underlying t=some (.struct fs)) (hs:P.stoodInHeld t=false) (hf:BL P 0 fs.toList kks=true) (hc:aN w M cs vs) (hd:aN w M O us) (J:cD kks cs O=some b):
  (Op.equal t (.agg vs.toArray) (.agg us.toArray)).run P w= .ok b w:=by
 unfold Op.equal
 rw[show Op.maxDepth=9997+1+1+1 from rfl,Op.equalIn]
 simp only[Sem.run_bind,run_underlying Y,Result.andThen_ok,program,Sem.run,hs]
 simp only[Tj,Tv,ne_eq,ite_not,TR,pure_bind]
 rw[<-Array.forIn_toList]
 have key:=fun n i2=>y3 (P:=P) (w:=w) (M:=M) 9997 n i2 (vs:=vs) (us:=us) hf (by simpa using hc) (by simpa using hd) J
 simp only[Sem.run_bind]
 rw[key]
 cases b<;>rfl
theorem Fj (Y:P.underlying t=some (.struct fs)) (hs:P.stoodInHeld t=false) (hg:P.eqGuardType P.depth t=false) (hf:BL P 0 fs.toList kks=true) (hx:ba w M (.agg cs) (a.eval A)) (hy:ba w M (.agg O) (a.eval f)) (J:cD kks cs O=some b) (v4:op= .eql\/op= .neq):
  dO P a ⟨dst,.binOp op t A f t2,ty,S,U,gd⟩ w M κ (.d (.bool (match op with| .eql=>b|_=> !b))):=by
 unfold ba at hx hy
 obtain⟨vs,i,_,e⟩:=hx
 obtain⟨us,c,_,s1⟩:=hy
 have B:=EN (P:=P) Y hs hf e s1 J
 have d:(eqGuard op t A f (.agg vs.toArray) (.agg us.toArray)).run P w= .ok () w:=by
  rcases v4 with rfl|rfl<;>simp[eqGuard,program,Sem.run,hg]
 rcases v4 with rfl|rfl
 ·exact aH (v:= .bool b) (by simp only[execOp,i,c,Sem.run_bind,d,Result.andThen_ok,binOp,B,Sem.run_pure]) (by simp[ah,ba])
 ·exact aH (v:= .bool !b) (by simp only[execOp,i,c,Sem.run_bind,d,Result.andThen_ok,binOp,B,Sem.run_pure]) (by simp[ah,ba])
end
