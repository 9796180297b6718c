/-
  My text.
-/
import Derived.Test.YtgmnipfafmphaaaGreatDoorSXEngD
import Derived.Lib.Strings
import Derived.Laws.BytesArg
import Derived.Laws.Runes
import Derived.Laws.IdiomStrings
namespace Go.Proofs.YtgmnipfafmphaaaGreatDoor
set_option linter.unusedVariables false
open Go.RowKit
variable {J:List DV} {K:Nat} {O:Array Field} {V:Operand} {X:List Value} {args:Array Operand} {b:Bool} {c:Value} {cs:List DV} {d:TypeDesc} {e:TypeId} {es:List MapEntry} {f:Field} {g i:Operand} {k k':IntKind} {kk:KK} {kks:List KK} {l:List UInt8} {m:Int} {ms:Array (String×TypeId)} {n:Int} {o:Nat} {op:BinOp} {p:Prop} {r:Nat} {s t t2:TypeId} {ts:Array TypeId} {u v:Value} {vs:List Value} {x:Operand} {xs:List Operand} {y:SV} {z:Value}
def f3 (P:Program) (a:Act) (o:Oper) (w:World) (M:Nat->Prop) (κ:Nat->Value) (x:SV):Prop:=
 ∃ v w',(execOp a.eval o).run P w= .ok (.value v) w'/\Below w.heap.size w w'/\al w' M κ x v
section
variable {P:Program} {a:Act} {w:World} {M:Nat->Prop} {κ:Nat->Value} {dst:Option Tmp} {ty:TypeId} {pos:String} {S:Array Edge} {gd:Option (Nat×Bool)}
theorem aQ {o:Oper} {x:SV} (h:(execOp a.eval o).run P w= .ok (.value v) w) (hx:al w M κ x v):f3 P a o w M κ x:=⟨v,w,h,Below.refl _ _,hx⟩
theorem MW (h:al w M κ y (a.eval x)):f3 P a ⟨dst,.move x,ty,pos,S,gd⟩ w M κ y:=aQ (by simp[execOp]) h
theorem Gi (h:al w M κ y (a.eval x)):f3 P a ⟨dst,.assign x,ty,pos,S,gd⟩ w M κ y:=aQ (by simp[execOp]) h
theorem CP {c y:Operand} {t:Bool} {z:SV} (hc:al w M κ (.d (.bool t)) (a.eval c)) (h:al w M κ z (if t then a.eval x else a.eval y)):f3 P a ⟨dst,.pick c x y,ty,pos,S,gd⟩ w M κ z:=by
 simp only[al,bf] at hc
 refine aQ (v:=if t then a.eval x else a.eval y) ?_ h
 simp[execOp,hc,asBool]
theorem rt (h:P.underlying t=some d) (w:World):(isAgg t).run P w= .ok (nx d) w:=by
 simp only[isAgg,Sem.run_bind,run_underlying h,Result.andThen_ok]
 cases d<;>simp[nx]
theorem f5 (h:(P.info? t).isSome=true) (w:World):(sizeOf t).run P w= .ok (P.cellsOf t) w:=by
 obtain⟨i,hi⟩:=Wo.1 h
 simp[sizeOf,typeInfo,hi,Program.cellsOf]
theorem Gj (h:P.underlying t=some d) (hd:nx d=false) {b:Nat} (hc:w.cell? ⟨b,o,none⟩=some v):(loadVar t ⟨b,o,none⟩).run P w= .ok v w:=by
 simp[loadVar,rt h,hd,hc]
theorem ov (h:P.underlying t=some d) (hd:nx d=true) (hi:(P.info? t).isSome=true) {b:Nat} (hn:P.cellsOf t=vs.length) (hc:∀ j v,vs[j]?=some v->w.cell? ⟨b,o+j,none⟩=some v):(loadVar t ⟨b,o,none⟩).run P w= .ok (.agg vs.toArray) w:=by
 have:=run_loadCells_list (P:=P) w ⟨b,o,none⟩ vs (fun j v hj=>by rw[iC];exact hc j v hj)
 simp[loadVar,rt h,hd,f5 hi,hn,this]
theorem z7 {b:Nat} (h:P.underlying t=some d) (hd:nx d=false) (hx:a.eval x= .pointer (some ⟨b,o,none⟩)) (hc:w.cell? ⟨b,o,none⟩=some v) (hy:al w M κ y v):f3 P a ⟨dst,.load t x,ty,pos,S,gd⟩ w M κ y:=
 aQ (v:=v) (by simp[execOp,Instr.loadAt,Instr.sureAddr,hx,Gj h hd hc]) hy
theorem z8 {b:Nat} (h:P.underlying t=some d) (hd:nx d=true) (hi:(P.info? t).isSome=true) (hn:P.cellsOf t=vs.length) (hx:a.eval x= .pointer (some ⟨b,o,none⟩)) (hc:∀ j v,vs[j]?=some v->w.cell? ⟨b,o+j,none⟩=some v) (hy:al w M κ y (.agg vs.toArray)):f3 P a ⟨dst,.load t x,ty,pos,S,gd⟩ w M κ y:=
 aQ (v:= .agg vs.toArray) (by simp[execOp,Instr.loadAt,Instr.sureAddr,hx,ov h hd hi hn hc]) hy
theorem Lo {T:TypeId} (hM:∀ b,M b->b<w.heap.size) (hv:(a.eval x).cells=vs.toArray) (h1:∀ u∈vs,u.oneCell'=true) (hc:aM w M cs vs):
  f3 P a ⟨dst,.box T x,ty,pos,S,gd⟩ w M κ (.d (.ptr cs)):=by
 refine⟨.pointer (some ⟨w.heap.size,0,none⟩),w.alloc (.cells vs.toArray T), ?_,(Below.refl _ _).alloc (Vs _) _, ?_⟩
 ·simp only[execOp,Instr.box,newVar,newRow,newObj,hv,Sem.run_bind,Sem.run,Result.andThen_ok,Sem.run_pure]
  rfl
 ·simp only[al,bf]
  refine⟨w.heap.size,0,rfl,fun h=>Nat.lt_irrefl _ (hM _ h),by simp, ?_⟩
  exact b4.of_row (heap_alloc_new w _) (hc.ext (mG.of_below ((Below.refl _ _).alloc (Vs _) _))) h1 oS
theorem z_ {i:TypeInfo} (hi:P.info? t=some i) (hz:i.zero=some z) (hv:z.cells=vs.toArray):(execOp a.eval ⟨dst,.alloc t,ty,pos,S,gd⟩).run P w= .ok (.value (.pointer (some ⟨w.heap.size,0,none⟩))) (w.alloc (.cells vs.toArray t)):=by
 have c:(zeroValue t).run P w= .ok z w:=by simp[zeroValue,typeInfo,hi,hz]
 simp only[execOp,Instr.alloc,newVar,newRow,newObj,hv,Sem.run_bind,c,Sem.run,Result.andThen_ok,Sem.run_pure]
 rfl
theorem HF {i:TypeInfo} (hi:P.info? t=some i) (hz:i.zero=some z) (hM:∀ b,M b->b<w.heap.size) (hv:z.cells=vs.toArray) (h1:∀ u∈vs,u.oneCell'=true) (hc:aM w M cs vs):
  f3 P a ⟨dst,.alloc t,ty,pos,S,gd⟩ w M κ (.d (.ptr cs)):=by
 refine⟨.pointer (some ⟨w.heap.size,0,none⟩),w.alloc (.cells vs.toArray t),z_ hi hz hv,(Below.refl _ _).alloc (Vs _) _, ?_⟩
 simp only[al,bf]
 refine⟨w.heap.size,0,rfl,fun h=>Nat.lt_irrefl _ (hM _ h),by simp, ?_⟩
 exact b4.of_row (heap_alloc_new w _) (hc.ext (mG.of_below ((Below.refl _ _).alloc (Vs _) _))) h1 oS
theorem Aa {i:Nat} {b:Nat} (h:P.underlying t=some (.struct O)) (C:O[i]?=some f) (hi:(P.info? f.type).isSome=true) (hn:P.cellsOf f.type≠0) (hx:a.eval x= .pointer (some ⟨b,o,none⟩)) (hy:al w M κ y (.pointer (some ⟨b,o+f.offset,none⟩))):f3 P a ⟨dst,.fieldAddr t x i,ty,pos,S,gd⟩ w M κ y:=
 aQ (v:= .pointer (some ⟨b,o+f.offset,none⟩)) (by simp[execOp,Instr.fieldAt,Instr.sureAddr,hx,run_underlying h,C,fieldPlace,f5 hi,hn,iC]) hy
theorem CQ {i:Nat} (h:P.underlying t=some (.struct O)) (C:O[i]?=some f) (hu:P.underlying f.type=some d) (hd:nx d=false) (hx:a.eval x= .agg vs.toArray) (hv:vs[f.offset]?=some v) (hy:al w M κ y v):f3 P a ⟨dst,.field t x i,ty,pos,S,gd⟩ w M κ y:=
 aQ (v:=v) (by simp[execOp,Instr.field,hx,run_underlying h,C,part,rt hu,hd,asAgg,hv]) hy
theorem CR {i:Nat} (h:P.underlying t=some (.struct O)) (C:O[i]?=some f) (hu:P.underlying f.type=some d) (hd:nx d=true) (hi:(P.info? f.type).isSome=true) (hx:a.eval x= .agg vs.toArray) (hy:al w M κ y (.agg ((vs.drop f.offset).take (P.cellsOf f.type)).toArray)):f3 P a ⟨dst,.field t x i,ty,pos,S,gd⟩ w M κ y:=by
 refine aQ (v:= .agg ((vs.drop f.offset).take (P.cellsOf f.type)).toArray) ?_ hy
 simp[execOp,Instr.field,hx,run_underlying h,C,part,rt hu,hd,asAgg,f5 hi,List.extract_eq_take_drop]
theorem Ab {b len N:Nat} (h:P.underlying t=some (.slice e)) (hi:(P.info? e).isSome=true) (hx:a.eval x= .slice (some ⟨b,o,none⟩) len N) (hn:a.eval i= .int k n) (h0:0<=n) (h1:n<len) (hy:al w M κ y (.pointer (some ⟨b,o+n.toNat * P.cellsOf e,none⟩))):
  f3 P a ⟨dst,.indexAddr t x i,ty,pos,S,gd⟩ w M κ y:=
 aQ (v:= .pointer (some ⟨b,o+n.toNat * P.cellsOf e,none⟩)) (by simp[execOp,Instr.indexAt,hx,hn,asIntOf,run_underlying h,f5 hi,h0,h1,iC]) hy
theorem Jc {c:UInt8} (h:P.underlying t=some .string) (hx:a.eval x= .string ⟨l.toArray⟩) (hn:a.eval i= .int k n) (h0:0<=n) (hc:l[n.toNat]?=some c):f3 P a ⟨dst,.index t x i,ty,pos,S,gd⟩ w M κ (.d (.int .u8 c.toNat)):=by
 have L:(⟨l.toArray⟩:ByteArray)[n.toNat]?=some c:=by
  obtain⟨h9,he⟩:=Vr.1 hc
  rw[getElem?_pos (⟨l.toArray⟩:ByteArray) n.toNat h9]
  simp only[Vi]
  exact he
 refine aQ (v:= .int .u8 c.toNat) ?_ (by simp[al,bf])
 simp[execOp,Instr.index,hx,hn,asIntOf,run_underlying h,h0,L]
theorem Kp (a b:Int):(a==b)=decide (a=b):=by rw[Wa];simp
theorem Pn (a b:Int):(a !=b)=decide (a≠b):=by rw[Wa];simp
def HG (P:Program) (t:TypeId) (V g:Operand):DV->Prop
 | .bool _=>P.underlying t=some .bool
 | .raw _=>(p1 V=true\/p1 g=true)/\∃ ms,P.underlying t=some (.interface ms)
 | .err=>(p1 V=true\/p1 g=true)/\∃ ms,P.underlying t=some (.interface ms)
 |_=>True
theorem y4 (t:TypeId) (hh:P.underlying t=some .bool) (c d:Bool) (n:Nat):(Op.equalIn (n+1) t (.bool c) (.bool d)).run P w= .ok (c==d) w:=by
 rw[Op.equalIn]
 simp[run_underlying hh]
theorem Gk (t:TypeId) (hh:P.underlying t=some (.interface ms)) (n:Nat):(Op.equalIn (n+1) t .nilIface .nilIface).run P w= .ok true w:=by
 rw[Op.equalIn]
 simp[run_underlying hh]
theorem ED (t:TypeId) (hh:P.underlying t=some (.interface ms)) (n:Nat) (u:TypeId) (v:Value):(Op.equalIn (n+1) t (.iface u v) .nilIface).run P w= .ok false w:=by
 rw[Op.equalIn]
 simp[run_underlying hh]
theorem CS (t:TypeId) (hh:P.underlying t=some .bool) (c d:Bool):(Op.equal t (.bool c) (.bool d)).run P w= .ok (c==d) w:=y4 t hh c d 9999
theorem CT (t:TypeId) (hh:P.underlying t=some (.interface ms)):(Op.equal t .nilIface .nilIface).run P w= .ok true w:=Gk t hh 9999
theorem A7 (t:TypeId) (hh:P.underlying t=some (.interface ms)) (u:TypeId) (v:Value):(Op.equal t (.iface u v) .nilIface).run P w= .ok false w:=ED t hh 9999 u v
theorem yj (t:TypeId) (hh:P.underlying t=some (.pointer e)) (q:Option Addr):(Op.equal t (.pointer q) (.pointer none)).run P w= .ok q.isNone w:=by
 unfold Op.equal
 rw[show Op.maxDepth=9999+1 from rfl,Op.equalIn]
 cases q<;>simp[run_underlying hh]
theorem MY {x y:DV} {r:DV} (ht:HG P t V g x) (hu:bf w M x u) (hv:bf w M y v) (h:BL op x y=some (p,r)) (Y:p):
  ∃ z,(do eqGuard op t V g u v;binOp op t u v:Sem Value).run P w= .ok z w/\bf w M r z:=by
 unfold BL at h
 split at h
 ·
  rename_i k m k' n
  simp only[bf] at hu hv
  subst hu hv
  split at h
  ·rename_i hk
   subst hk
   unfold xR at h
   split at h<;>first
    |(simp only[Vi,Vm] at h;obtain⟨rfl,rfl⟩:=h
      simp[eqGuard,binOp,Op.intArith,Op.intCmp,Op.intDiv,Op.intBits,Pm,bf,Kp,Pn,Y];done)
    |(simp only[Vi,Vm] at h;obtain⟨rfl,rfl⟩:=h
      refine⟨_, ?_,rfl⟩
      simp only[eqGuard,binOp]
      first|rw[Go.shift_shr _ _ _ _ Y.1 Y.2]|rw[Go.shift_shl _ _ _ _ Y.1 Y.2]
      rfl)
    |(cases h;done)
    |skip
  ·split at h
   ·unfold xR at h
    simp only[Vi,Vm] at h;obtain⟨rfl,rfl⟩:=h
    refine⟨_, ?_,rfl⟩
    simp only[eqGuard,binOp]
    rw[Go.shift_shr _ _ _ _ Y.1 Y.2]
    rfl
   ·unfold xR at h
    simp only[Vi,Vm] at h;obtain⟨rfl,rfl⟩:=h
    refine⟨_, ?_,rfl⟩
    simp only[eqGuard,binOp]
    rw[Go.shift_shl _ _ _ _ Y.1 Y.2]
    rfl
   ·cases h
 ·
  rename_i m n
  simp only[bf] at hu hv
  subst hu hv
  have F:∀ l:List UInt8,(⟨l.toArray⟩:ByteArray).size=l.length:=fun l=>by simp[ByteArray.size]
  have f:∀ l:List UInt8,(⟨l.toArray⟩:ByteArray).toList=l:=fun l=>by rw[Lib.toList_data]
  have s:∀ l k:List UInt8,(l==k)=decide (l=k):=fun l k=>by rw[Wa];simp
  unfold MU at h
  split at h
  ·simp only[Vi,Vm] at h;obtain⟨rfl,rfl⟩:=h
   have r2:¬ (((m.length+n.length:Nat):Int)>IntKind.i64.max):=by
    have:IntKind.i64.max=9223372036854775807:=by decide
    omega
   refine⟨.string ⟨(m++n).toArray⟩, ?_,by simp[bf]⟩
   simp only[eqGuard,binOp,Op.stringOp,F,WU r2]
   simp
   apply ByteArray.ext
   simp
  all_goals first
   |(simp only[Vi,Vm] at h;obtain⟨rfl,rfl⟩:=h
     simp[eqGuard,binOp,Op.stringOp,bf,f,s];done)
   |(cases h;done)
 ·rename_i m n
  simp only[bf] at hu hv
  subst hu hv
  have o:P.underlying t=some .bool:=ht
  have s:∀ c d:Bool,(c==d)=decide (c=d):=fun c d=>by cases c<;>cases d<;>rfl
  split at h
  ·simp only[Vi,Vm] at h;obtain⟨rfl,rfl⟩:=h
   exact⟨.bool (decide (m=n)),by simp[eqGuard,binOp,CS t o,s],by simp[bf]⟩
  ·simp only[Vi,Vm] at h;obtain⟨rfl,rfl⟩:=h
   exact⟨.bool (decide (m≠n)),by simp[eqGuard,binOp,CS t o,s],by simp[bf]⟩
  ·cases h
 ·simp only[bf] at hu hv
  subst hu hv
  obtain⟨ht,ms,j⟩:=ht
  have L:(eqGuard op t V g .nilIface .nilIface).run P w= .ok () w:=by
   rcases ht with ht|ht
   ·cases V<;>simp[p1] at ht
    cases op<;>simp[eqGuard]
   ·cases g<;>simp[p1] at ht
    cases op<;>simp[eqGuard]
  split at h
  ·simp only[Vi,Vm] at h;obtain⟨rfl,rfl⟩:=h
   exact⟨.bool true,by simp[L,binOp,CT t j],by simp[bf]⟩
  ·simp only[Vi,Vm] at h;obtain⟨rfl,rfl⟩:=h
   exact⟨.bool false,by simp[L,binOp,CT t j],by simp[bf]⟩
  ·cases h
 ·simp only[bf] at hu hv
  obtain⟨b,e,rfl⟩:=hu
  subst hv
  obtain⟨ht,ms,j⟩:=ht
  split at h
  ·simp only[Vi,Vm] at h;obtain⟨rfl,rfl⟩:=h
   exact⟨.bool false,by simp[eqGuard,binOp,A7 t j],by simp[bf]⟩
  ·simp only[Vi,Vm] at h;obtain⟨rfl,rfl⟩:=h
   exact⟨.bool true,by simp[eqGuard,binOp,A7 t j],by simp[bf]⟩
  ·cases h
 ·cases h
theorem tM {x y:DV} {r:DV} (ht:HG P t V g x) (hu:bf w M x (a.eval V)) (hv:bf w M y (a.eval g)) (h:BL op x y=some (p,r)) (Y:p):
  f3 P a ⟨dst,.binOp op t V g t2,ty,pos,S,gd⟩ w M κ (.d r):=by
 obtain⟨z,hz,D⟩:=MY ht hu hv h Y
 simp only[Sem.run_bind] at hz
 exact aQ (v:=z) (by simp only[execOp,Sem.run_bind,hz,Result.andThen_ok,Sem.run_pure]) (by simpa[al] using D)
theorem Lp (hx:a.eval x= .bool b):f3 P a ⟨dst,.unOp .not t x,ty,pos,S,gd⟩ w M κ (.d (.bool !b)):=
 aQ (v:= .bool !b) (by simp[execOp,Op.unary,hx]) (by simp[al,bf])
theorem Lq (hx:a.eval x= .int k n):f3 P a ⟨dst,.unOp .neg t x,ty,pos,S,gd⟩ w M κ (.d (.int k (k.wrap (0 - n)))):=
 aQ (v:= .int k (k.wrap (0 - n))) (by simp[execOp,Op.unary,hx,Op.intArith]) (by simp[al,bf])
theorem Lr (hs:(P.underlying s).isSome=true) (ht:P.underlying t=some (.int k)) (hx:a.eval x= .int k' n):f3 P a ⟨dst,.convert s t x,ty,pos,S,gd⟩ w M κ (.d (.int k (k.wrap n))):=by
 obtain⟨d',m⟩:=Wo.mp hs
 exact aQ (v:= .int k (k.wrap n)) (by simp[execOp,convert,run_underlying m,run_underlying ht,hx,Conv.intToInt]) (by simp[al,bf])
theorem Jd (hs:P.underlying s=some (.int k)) (ht:P.underlying t=some .string) (hx:a.eval x= .int k' n):f3 P a ⟨dst,.convert s t x,ty,pos,S,gd⟩ w M κ (.d (.str (Utf8.encode n).data.toList)):=by
 refine aQ (v:= .string (Utf8.encode n)) ?_ (by simp only[al,bf])
 have h:=run_convert_int_string (P:=P) w s t k' n (by rw[hs];rfl) ht
 simp only[execOp,hx,Sem.run_bind,h,Result.andThen_ok,Sem.run_pure]
def Po (w:World) (v:Value) (l:List UInt8):Prop:=∃ ad N,v= .slice ad l.length N/\(l=[]\/∃ b o,ad=some ⟨b,o,none⟩/\∀ (j:Nat) (c:UInt8),l[j]?=some c->w.cell? ⟨b,o+j,none⟩=some (.int .u8 c.toNat))
theorem rN (hs:P.underlying s=some (.slice e)) (he:P.underlying e=some (.int .u8)) (ht:P.underlying t=some .string) (hx:Po w (a.eval x) l):f3 P a ⟨dst,.convert s t x,ty,pos,S,gd⟩ w M κ (.d (.str l)):=by
 obtain⟨ad,N,hv,hl⟩:=hx
 refine aQ (v:= .string ⟨l.toArray⟩) ?_ (by simp only[al,bf])
 have h:(convert s t (.slice ad l.length N)).run P w= .ok (.string ⟨l.toArray⟩) w:=by
  rcases hl with rfl|⟨b,o,rfl,hc⟩
  ·rw[Vp,run_convert_bytes_string w s t e ad 0 N hs he ht]
   cases ad<;>simp[Conv.bytesToString,loadCells]
   all_goals rfl
  ·exact run_convert_bytes_back w s t e ⟨b,o,none⟩ N l hs he ht (fun j hj=>by
    have:=hc j l[j] (Vu hj)
    have e2:(⟨b,o,none⟩:Addr).add j=⟨b,o+j,none⟩:=by unfold Addr.add;split<;>simp_all
    rw[e2];exact this)
 simp only[execOp,hv,Sem.run_bind,h,Result.andThen_ok,Sem.run_pure]
theorem Je (hM:∀ b,M b->b<w.heap.size) (hs:P.underlying s=some .string) (ht:P.underlying t=some (.slice e)) (he:P.underlying e=some (.int .u8)) (hx:a.eval x= .string ⟨l.toArray⟩):f3 P a ⟨dst,.convert s t x,ty,pos,S,gd⟩ w M κ (.d (.slice (l.map fun b=>[.int .u8 b.toNat]))):=by
 have h:=run_bytes_of_string (P:=P) w s t e ⟨l.toArray⟩ hs ht he
 have F:(⟨l.toArray⟩:ByteArray).size=l.length:=by simp[ByteArray.size]
 rw[F] at h
 have v0:=grownCap_ge w l.length 0 e
 refine⟨_,_,by simp only[execOp,hx,Sem.run_bind,h,Result.andThen_ok,Sem.run_pure];rfl,((Below.refl _ _).drew).alloc (Vs _) _, ?_⟩
 simp only[al,bf]
 refine⟨some ⟨w.heap.size,0,none⟩,grownCap w l.length 0 e,by simp,by simpa using v0,by simp, ?_⟩
 by_cases hl:l=[]
 ·exact .inl (by simp[hl])
 ·refine .inr ⟨w.heap.size,0,1,rfl,fun hb=>Nat.lt_irrefl _ (hM _ hb),by simp, ?_⟩
  have key:∀ (r:List UInt8) (o:Nat),(∀ (j:Nat) (c:UInt8),r[j]?=some c->(w.drew.alloc (.cells (bytesRow ⟨l.toArray⟩ (grownCap w l.length 0 e)) e ((bytesRow ⟨l.toArray⟩ (grownCap w l.length 0 e)).size,(bytesRow ⟨l.toArray⟩ (grownCap w l.length 0 e)).size+1))).cell? ⟨w.heap.size,o+j,none⟩=some (.int .u8 c.toNat))->
    bd (w.drew.alloc (.cells (bytesRow ⟨l.toArray⟩ (grownCap w l.length 0 e)) e ((bytesRow ⟨l.toArray⟩ (grownCap w l.length 0 e)).size,(bytesRow ⟨l.toArray⟩ (grownCap w l.length 0 e)).size+1))) M (r.map fun b=>[.int .u8 b.toNat]) w.heap.size o 1:=by
   intro r
   induction r with
   |nil=>intro o _;simp only[WG,bd]
   |cons c r ih=>
    intro o hc
    simp only[VF,bd,b4]
    refine⟨rfl,⟨⟨.int .u8 c.toNat,by simpa using hc 0 c rfl,rfl,by simp only[bf]⟩,trivial⟩,ih (o+1) fun j d hj=> ?_⟩
    have:=hc (j+1) d (by simpa using hj)
    rwa[show o+(j+1)=o+1+j by omega] at this
  refine key l 0 fun j c hj=> ?_
  have qr:j<(⟨l.toArray⟩:ByteArray).data.size:=by have:=(Vr.1 hj).1;simpa using this
  have hb:=bytesRow_at ⟨l.toArray⟩ (grownCap w l.length 0 e) j qr
  have hc:(⟨l.toArray⟩:ByteArray).data[j]=c:=by
   have:=Vr.1 hj
   obtain⟨h1,h2⟩:=this
   simpa using h2
  rw[hc] at hb
  have f:=heap_alloc_new w.drew (.cells (bytesRow ⟨l.toArray⟩ (grownCap w l.length 0 e)) e ((bytesRow ⟨l.toArray⟩ (grownCap w l.length 0 e)).size,(bytesRow ⟨l.toArray⟩ (grownCap w l.length 0 e)).size+1))
  have g:(w.drew.alloc (.cells (bytesRow ⟨l.toArray⟩ (grownCap w l.length 0 e)) e ((bytesRow ⟨l.toArray⟩ (grownCap w l.length 0 e)).size,(bytesRow ⟨l.toArray⟩ (grownCap w l.length 0 e)).size+1))).heap[w.heap.size]?=some (.cells (bytesRow ⟨l.toArray⟩ (grownCap w l.length 0 e)) e ((bytesRow ⟨l.toArray⟩ (grownCap w l.length 0 e)).size,(bytesRow ⟨l.toArray⟩ (grownCap w l.length 0 e)).size+1)):=f
  unfold World.cell?
  simp only[g,VD]
  exact hb
theorem Fb {i:Nat} (hx:a.eval x= .tuple vs.toArray) (hv:vs[i]?=some v) (hy:al w M κ y v):f3 P a ⟨dst,.extract x i,ty,pos,S,gd⟩ w M κ y:=
 aQ (v:=v) (by simp[execOp,Instr.extract,hx,hv]) hy
theorem jh (g:Operand->Value) (b:Builtin) (args:Array Operand) (ts:Array TypeId):∃ cs,(execOp g ⟨dst,.call {callee:= .builtin b,args,argTypes:=ts},ty,pos,S,gd⟩).run P w=
  (builtin b ts ty cs (args.map g)).run P w:=⟨_,by simp only[execOp,resolve,Sem.run_bind,Sem.run_pure,Result.andThen_ok,invoke];rfl⟩
theorem Kq (l:List UInt8):(⟨l.toArray⟩:ByteArray).size=l.length:=by
 show l.toArray.size=_
 simp
theorem li (ha:args.toList=[x]) (r0:ts.toList=[t]) {b:Option Addr} {n c:Nat} (ht:P.underlying t=some (.slice e)) (hx:a.eval x= .slice b n c):
  f3 P a ⟨dst,.call {callee:= .builtin .len,args,argTypes:=ts},ty,pos,S,gd⟩ w M κ (.d (.int .i64 n)):=by
 have e1:args= #[x]:=by rw[<-Ws];exact ha
 have e2:ts= #[t]:=by rw[<-Ws];exact r0
 subst e1 e2
 exact aQ (v:= .int .i64 n) (by obtain⟨cs,r3⟩:=jh (P:=P) (w:=w) (dst:=dst) (ty:=ty) (pos:=pos) (S:=S) (gd:=gd) a.eval .len #[x] #[t];rw[r3];simp[builtin,Builtin.len_,run_underlying ht,hx,goInt]) (by simp[al,bf])
theorem EE (ha:args.toList=[x]) (r0:ts.toList=[t]) (ht:P.underlying t=some .string) (hx:a.eval x= .string ⟨l.toArray⟩):
  f3 P a ⟨dst,.call {callee:= .builtin .len,args,argTypes:=ts},ty,pos,S,gd⟩ w M κ (.d (.int .i64 l.length)):=by
 have e1:args= #[x]:=by rw[<-Ws];exact ha
 have e2:ts= #[t]:=by rw[<-Ws];exact r0
 subst e1 e2
 exact aQ (v:= .int .i64 l.length) (by obtain⟨cs,r3⟩:=jh (P:=P) (w:=w) (dst:=dst) (ty:=ty) (pos:=pos) (S:=S) (gd:=gd) a.eval .len #[x] #[t];rw[r3];simp[builtin,Builtin.len_,run_underlying ht,hx,goInt,Kq]) (by simp[al,bf])
theorem EF {k:TypeId} (ha:args.toList=[x]) (r0:ts.toList=[t]) (ht:P.underlying t=some (.map k e)) (hx:a.eval x= .map (some r)) (D:w.heap[r]?=some (.map es.toArray K)):
  f3 P a ⟨dst,.call {callee:= .builtin .len,args,argTypes:=ts},ty,pos,S,gd⟩ w M κ (.d (.int .i64 es.length)):=by
 have e1:args= #[x]:=by rw[<-Ws];exact ha
 have e2:ts= #[t]:=by rw[<-Ws];exact r0
 subst e1 e2
 exact aQ (v:= .int .i64 es.length) (by obtain⟨cs,r3⟩:=jh (P:=P) (w:=w) (dst:=dst) (ty:=ty) (pos:=pos) (S:=S) (gd:=gd) a.eval .len #[x] #[t];rw[r3];simp[builtin,Builtin.len_,run_underlying ht,hx,goInt,getObj,Sem.run,D]) (by simp[al,bf])
theorem A8:∀ (l:List DV) (vs:List Value) (m r:Int),aM w M l vs->us m l=some r->(vs.foldlM Builtin.min2 (.int .i64 m)).run P w= .ok (.int .i64 r) w
 |[],vs,m,r,hl,h=>by
  unfold aM at hl;subst hl
  simp only[us,Vi] at h;subst h;rfl
 |x::l,vs,m,r,hl,h=>by
  unfold aM at hl
  obtain⟨u,X,rfl,h1,h2⟩:=hl
  unfold us at h
  split at h
  ·cases ‹_::_=_›
  ·rename_i B
   simp only[V9] at B
   obtain⟨rfl,rfl⟩:=B
   simp only[bf] at h1
   subst h1
   simp only[List.foldlM_cons,Builtin.min2,pure_bind]
   exact A8 _ _ _ _ h2 h
  ·cases h
theorem A9:∀ (l:List DV) (vs:List Value) (m r:Int),aM w M l vs->ut m l=some r->(vs.foldlM Builtin.max2 (.int .i64 m)).run P w= .ok (.int .i64 r) w
 |[],vs,m,r,hl,h=>by
  unfold aM at hl;subst hl
  simp only[ut,Vi] at h;subst h;rfl
 |x::l,vs,m,r,hl,h=>by
  unfold aM at hl
  obtain⟨u,X,rfl,h1,h2⟩:=hl
  unfold ut at h
  split at h
  ·cases ‹_::_=_›
  ·rename_i B
   simp only[V9] at B
   obtain⟨rfl,rfl⟩:=B
   simp only[bf] at h1
   subst h1
   simp only[List.foldlM_cons,Builtin.max2,pure_bind]
   exact A9 _ _ _ _ h2 h
  ·cases h
theorem Jf (ha:args.toList=x::xs) {r:Int} {l:List DV} (hx:a.eval x= .int .i64 m) (hl:aM w M l (xs.map a.eval)) (h:us m l=some r):
  f3 P a ⟨dst,.call {callee:= .builtin .min,args,argTypes:=ts},ty,pos,S,gd⟩ w M κ (.d (.int .i64 r)):=by
 refine aQ (v:= .int .i64 r) ?_ (by simp[al,bf])
 have:=A8 (P:=P) l _ m r hl h
 obtain⟨cs,r3⟩:=jh (P:=P) (w:=w) (dst:=dst) (ty:=ty) (pos:=pos) (S:=S) (gd:=gd) a.eval .min args ts
 rw[r3]
 simp only[builtin,Builtin.min_,Array.toList_map,ha,VF,hx,Sem.run_bind,this,Result.andThen_ok,Sem.run_pure]
theorem Jg (ha:args.toList=x::xs) {r:Int} {l:List DV} (hx:a.eval x= .int .i64 m) (hl:aM w M l (xs.map a.eval)) (h:ut m l=some r):
  f3 P a ⟨dst,.call {callee:= .builtin .max,args,argTypes:=ts},ty,pos,S,gd⟩ w M κ (.d (.int .i64 r)):=by
 refine aQ (v:= .int .i64 r) ?_ (by simp[al,bf])
 have:=A9 (P:=P) l _ m r hl h
 obtain⟨cs,r3⟩:=jh (P:=P) (w:=w) (dst:=dst) (ty:=ty) (pos:=pos) (S:=S) (gd:=gd) a.eval .max args ts
 rw[r3]
 simp only[builtin,Builtin.max_,Array.toList_map,ha,VF,hx,Sem.run_bind,this,Result.andThen_ok,Sem.run_pure]
theorem Jh {f:FuncId} {first caps:Array Operand} (h0:first.size=0) {l:List DV} (hl:aM w M l (caps.toList.map a.eval)):f3 P a ⟨dst,.makeFunc (.func f) first caps,ty,pos,S,gd⟩ w M κ (.d (.fn f l)):=by
 have e1:first= #[]:=by simpa using h0
 subst e1
 refine aQ (v:= .func (.func f) #[] (caps.toList.map a.eval).toArray) ?_ (by simp only[al,bf];exact⟨_,rfl,hl⟩)
 have e:caps.map a.eval=(caps.toList.map a.eval).toArray:=by rw[<-Ws];simp
 simp[execOp,Instr.makeFunc,e]
theorem Ac (a b:List UInt8):((⟨a.toArray⟩:ByteArray)==⟨b.toArray⟩)=decide (a=b):=by
 show ByteArray.beq _ _=_
 rw[Wa]
 simp[ByteArray.beq]
theorem Fc {x:DV} (C:kk.fits x=true) (D:bf w M x v):k_ x=some v:=by
 cases kk<;>cases x<;>simp[KK.fits] at C<;>simp only[bf] at D<;>subst D<;>rfl
def KK.desc:KK->TypeDesc
 | .str=> .string
 | .int k=> .int k
 | .bool=> .bool
theorem xi (h:Gh P t=some kk):P.underlying t=some kk.desc:=by
 unfold Gh at h
 split at h<;>simp at h<;>subst h<;>simpa[KK.desc]
theorem y5 {x k:DV} {d:Value} (h1:kk.fits x=true) (h2:kk.fits k=true) (E:k_ x=some c) (h4:k_ k=some d):Instr.sameNow kk.desc c d=some (y3 x k):=by
 cases kk with
 |str=>
  cases x<;>simp[KK.fits] at h1
  cases k<;>simp[KK.fits] at h2
  rename_i a b
  simp[k_] at E h4
  subst E h4
  simp only[Instr.sameNow,KK.desc,y3,Vi]
  exact Ac a b
 |int q=>
  cases x<;>simp[KK.fits] at h1
  cases k<;>simp[KK.fits] at h2
  rename_i a b
  simp[k_] at E h4
  subst h1 h2 E h4
  simp only[Instr.sameNow,KK.desc,y3,VW,Vi]
  rw[Wa]
  simp
 |bool=>
  cases x<;>simp[KK.fits] at h1
  cases k<;>simp[KK.fits] at h2
  rename_i a b
  simp[k_] at E h4
  subst E h4
  simp only[Instr.sameNow,KK.desc,y3,Vi]
  cases a<;>cases b<;>rfl
theorem Ad {kk:KK} {x:DV} {c:Value} (h1:kk.fits x=true) (E:k_ x=some c):∀ {kv:List (DV×SV)} {es:List MapEntry} {F:List Nat} (i:Nat),bQ w M κ kk kv es F->po kv x=none->Instr.findNow kk.desc c es i=some none
 |[],es,F,i,Z,_=>by unfold bQ at Z;obtain⟨rfl,_⟩:=Z;rfl
 |(k,d)::kv,es,F,i,Z,L=>by
  unfold bQ at Z
  obtain⟨e,z,N,R,rfl,_,h2,h4,hv,Z⟩:=Z
  simp only[po] at L
  split at L
  ·cases L
  ·rename_i U
   simp only[WK] at U
   simp only[Instr.findNow,y5 h1 h2 E h4,U]
   exact Ad h1 E (i+1) Z L
theorem Ae {kk:KK} {x:DV} {d:SV} {c:Value} (h1:kk.fits x=true) (E:k_ x=some c):∀ {kv:List (DV×SV)} {es:List MapEntry} {F:List Nat} (i:Nat),bQ w M κ kk kv es F->po kv x=some d->
  ∃ j e p I q,es[j]?=some e/\Instr.findNow kk.desc c es i=some (some (i+j,e.val))/\F=p++I++q/\aT w M κ d e.val I/\e.key=c/\
   ∀ (d':SV) (v':Value) (G:List Nat),aT w M κ d' v' G->bQ w M κ kk (pq kv x d') (es.modify j fun e=>{e with key:=c,val:=v'}) (p++G++q)
 |[],es,F,i,Z,L=>by simp[po] at L
 |(k,d0)::kv,es,F,i,Z,L=>by
  unfold bQ at Z
  obtain⟨e,z,N,R,rfl,rfl,h2,h4,hv,Z⟩:=Z
  simp only[po] at L
  have n:=y5 h1 h2 E h4
  split at L
  ·rename_i B
   simp only[Vi] at L;subst L
   have f:e.key=c:=by
    have:k_ x=k_ k:=by
     cases x<;>cases k<;>simp_all [y3,k_]
    rw[this,h4] at E;simpa using E
   refine⟨0,e,[],N,R,by simp,by simp[Instr.findNow,n,B],by simp,hv,f,fun d' v' G D=> ?_⟩
   simp only[pq,B,VW,List.modify_zero_cons]
   unfold bQ
   exact⟨_,z,G,R,rfl,by simp,h1,E,D,Z⟩
  ·rename_i U
   simp only[WK] at U
   obtain⟨j,e',p,I,q,g1,g2,rfl,g3,g4,g5⟩:=Ae h1 E (i+1) Z L
   refine⟨j+1,e',N++p,I,q,by simpa using g1, ?_,by simp,g3,g4,fun d' v' G D=> ?_⟩
   ·simp only[Instr.findNow,n,U,g2]
    rw[show i+1+j=i+(j+1) by omega]
   ·simp only[pq,U,Vw,VQ,List.modify_succ_cons]
    unfold bQ
    exact⟨e,_,N,p++G++q,rfl,by simp,h2,h4,hv,g5 d' v' G D⟩
theorem HH {kk:KK} {x:DV} {c:Value} (h1:kk.fits x=true) (E:k_ x=some c) {b:Nat}:∀ {kv:List (DV×SV)} {es:List MapEntry} {F:List Nat},bQ w M κ kk kv es F->po kv x=none->∀ (d':SV) (v':Value) (G:List Nat),aT w M κ d' v' G->bQ w M κ kk (pq kv x d') (es++[{key:=c,val:=v',born:=b}]) (F++G)
 |[],es,F,Z,_,d',v',G,D=>by
  unfold bQ at Z;obtain⟨rfl,rfl⟩:=Z
  simp only[pq,VC]
  unfold bQ
  exact⟨_,[],G,[],rfl,by simp,h1,E,D,by unfold bQ;exact⟨rfl,rfl⟩⟩
 |(k,d)::kv,es,F,Z,L,d',v',G,D=>by
  unfold bQ at Z
  obtain⟨e,z,N,R,rfl,rfl,h2,h4,hv,Z⟩:=Z
  simp only[po] at L
  split at L
  ·cases L
  ·rename_i U
   simp only[WK] at U
   simp only[pq,U,Vw,VQ,VG]
   unfold bQ
   exact⟨e,_,N,R++G,rfl,by simp,h2,h4,hv,HH h1 E Z L d' v' G D⟩
theorem vS (h:P.underlying t=some kk.desc) (v:Value) (n:Nat):(Instr.checkKey b (n+1) t v).run P w= .ok () w:=by
 rw[Instr.checkKey]
 cases kk<;>simp[run_underlying h,KK.desc]
theorem y6 (h:P.underlying t=some kk.desc) {r:Option (Nat×Value)} (C:Instr.findNow kk.desc c es 0=some r):(Instr.findKey t c es).run P w= .ok r w:=by
 simp[Instr.findKey,run_underlying h,C]
theorem Ls {z:SV} (h:Ko P e z=true):∃ v,(zeroValue e).run P w= .ok v w/\al w M κ z v:=by
 unfold Ko at h
 split at h
 ·rename_i i hi
  cases hz:i.zero with
  |none=>simp[hz] at h
  |some v=>
   rw[hz] at h
   exact⟨v,by simp[zeroValue,typeInfo,hi,hz],sL h⟩
 ·cases h
theorem Ji {kt:TypeId} {z:SV} {d:DV} {ok:Bool} {kv:List (DV×SV)} {F:List Nat} (ht:P.underlying t=some (.map kt e)) (hk:Gh P kt=some kk) (hz:Ko P e z=true) (hx:a.eval x= .map (some r)) (D:w.heap[r]?=some (.map es.toArray K)) (Z:bQ w M κ kk kv es F) (C:kk.fits d=true) (r2:(xS kv d z).noOwn=true) (hd:bf w M d (a.eval i)):
  f3 P a ⟨dst,.lookup t x i ok,ty,pos,S,gd⟩ w M κ (if ok then .tup [xS kv d z,.d (.bool (Kn kv d))] else xS kv d z):=by
 have h:=xi hk
 have g:=Fc C hd
 have n:∀ b,(Instr.checkKey b 10000 kt (a.eval i)).run P w= .ok () w:=fun b=>vS h _ 9999
 have h9:(getObj r).run P w= .ok (.map es.toArray K) w:=by simp[getObj,Sem.run,D]
 have f:∀ (o:SV) (u:Value) (b:Bool),al w M κ o u->al w M κ (if ok then .tup [o,.d (.bool b)] else o) (if ok then Value.tuple #[u,.bool b] else u):=fun o u b hu=>by
  cases ok with
  |false=>simpa using hu
  |true=>
   simp only[VW,al,bf,av]
   exact⟨[u,.bool b],rfl,u,[.bool b],rfl,hu,.bool b,[],rfl,rfl,rfl⟩
 cases L:po kv d with
 |none=>
  obtain⟨k,c,m⟩:=Ls (w:=w) (M:=M) (κ:=κ) hz
  have l:=y6 (P:=P) (w:=w) h (Ad C g 0 Z L)
  simp only[xS,Kn,L,W8,Option.isSome_none]
  refine aQ (v:=if ok then Value.tuple #[k,.bool false] else k) ?_ (f z k false m)
  simp only[execOp,Instr.lookup,Sem.run_bind,run_underlying ht,Result.andThen_ok,hx,h9,Sem.run_pure,n,l,c]
 |some d'=>
  obtain⟨j,e',_,_,_,_,g2,_,g3,_,_⟩:=Ae C g 0 Z L
  have l:=y6 (P:=P) (w:=w) h g2
  simp only[xS,Kn,L,Wi,Option.isSome_some] at r2⊢
  refine aQ (v:=if ok then Value.tuple #[e'.val,.bool true] else e'.val) ?_ (f d' e'.val true (aT.to_S _ _ _ r2 g3).1)
  simp only[execOp,Instr.lookup,Sem.run_bind,run_underlying ht,Result.andThen_ok,hx,h9,Sem.run_pure,n,l]
theorem CU {x y:DV} (ht:P.underlying t=some kk.desc) (hu:bf w M x u) (hv:bf w M y v) (h:xh kk x y=some b) (d:Nat):(Op.equalIn (d+1) t u v).run P w= .ok b w:=by
 cases kk with
 |str=>
  cases x<;>simp[xh] at h
  cases y<;>simp at h
  simp only[bf] at hu hv
  subst hu hv h
  rw[Op.equalIn]
  simp only[Sem.run_bind,run_underlying ht,Result.andThen_ok,KK.desc,Sem.run_pure,Ac]
 |int k=>
  cases x<;>simp[xh] at h
  cases y<;>simp at h
  obtain⟨⟨rfl,rfl⟩,h⟩:=h
  simp only[bf] at hu hv
  subst hu hv h
  rw[Op.equalIn]
  simp[run_underlying ht,KK.desc,Kp]
 |bool=>
  cases x<;>simp[xh] at h
  cases y<;>simp at h
  rename_i p q
  simp only[bf] at hu hv
  subst hu hv h
  rw[y4 t ht]
  cases p<;>cases q<;>rfl
theorem Cg (ht:P.underlying t=some kk.desc) (hv:vs[o]?=some v):(part t vs.toArray o).run P w= .ok v w:=by
 have:nx kk.desc=false:=by cases kk<;>rfl
 simp[part,rt ht,this,hv]
theorem Fd (d:Nat) {vs X:List Value} (n:∀ f:Field,Decidable (f.name= "_")) (o:∀ x:Bool,Decidable (x=false)):∀ {O:List Field} {kks:List KK} {k:Nat} {cs J:List DV} {b:Bool},CO P k O kks=true->aM w M cs (vs.drop k)->aM w M J (X.drop k)->c4 kks cs J=some b->
  (forIn O ((none:Option Bool),()) (fun(f:Field) (z:Option Bool×Unit)=>
      @ite _ (f.name= "_") (n f) (pure (ForInStep.yield (none,())):Sem (ForInStep (Option Bool×Unit)))<|do
       let __do_lift <-part f.type vs.toArray f.offset
       let __do_lift_1 <-part f.type X.toArray f.offset
       let __do_lift <-Op.equalIn (d+1) f.type __do_lift __do_lift_1
       @ite _ (__do_lift=false) (o __do_lift) (pure (ForInStep.done (some false,()))) (pure (ForInStep.yield (none,()))))).run P w= .ok ((if b then none else some false),()) w
 |[],[],k,cs,J,b,C,hc,hd,he=>by
  cases cs with
  |nil=>cases J with
   |nil=>simp[c4] at he;subst he;simp
   |cons _ _=>simp[c4] at he
  |cons _ _=>simp[c4] at he
 |f::O,kk::kks,k,cs,J,b,C,hc,hd,he=>by
  simp only[CO,Vj,Vz,bne_iff_ne] at C
  obtain⟨⟨⟨rfl,h⟩,i⟩,C⟩:=C
  have ht:=xi i
  cases cs with
  |nil=>simp[c4] at he
  |cons c cs=>
   cases J with
   |nil=>simp[c4] at he
   |cons e J=>
    simp only[c4] at he
    split at he
    ·rename_i p q Y hq
     simp only[Vi] at he
     subst he
     unfold aM at hc hd
     obtain⟨v,A,hv,s,hc⟩:=hc
     obtain⟨u,g,hu,t,hd⟩:=hd
     have r:vs[f.offset]?=some v:=by
      have:=Wf (fun l:List Value=>l[0]?) hv
      simpa[Wp] using this
     have y:X[f.offset]?=some u:=by
      have:=Wf (fun l:List Value=>l[0]?) hu
      simpa[Wp] using this
     have s5:vs.drop (f.offset+1)=A:=by rw[<-Wr,hv];rfl
     have j:X.drop (f.offset+1)=g:=by rw[<-Wr,hu];rfl
     have B:=CU (P:=P) (w:=w) (M:=M) ht s t Y d
     have ih:=Fd d n o (vs:=vs) (X:=X) C (by rw[s5];exact hc) (by rw[j];exact hd) hq
     simp only[List.forIn_cons,WU h,Sem.run_bind,Cg ht r,Cg ht y,Result.andThen_ok,B]
     cases p with
     |false=>simp
     |true=>
      simp only[Xv,VQ,Sem.run_pure,Result.andThen_ok,ih,V3]
    ·cases he
 |[],_::_,k,cs,J,b,C,_,_,_=>by simp[CO] at C
 |_::_,[],k,cs,J,b,C,_,_,_=>by simp[CO] at C
theorem BM (d:Nat) (ht:P.underlying t=some (.struct O)) (hs:P.stoodInHeld t=false) (C:CO P 0 O.toList kks=true) (hc:aM w M cs vs) (hd:aM w M J X) (he:c4 kks cs J=some b):
  (Op.equalIn (d+1+1) t (.agg vs.toArray) (.agg X.toArray)).run P w= .ok b w:=by
 rw[Op.equalIn]
 simp only[Sem.run_bind,run_underlying ht,Result.andThen_ok,program,Sem.run,hs]
 simp only[Vw,VQ,ne_eq,ite_not,Wb]
 rw[<-Array.forIn_toList]
 have key:=fun n o=>Fd (P:=P) (w:=w) (M:=M) d n o (vs:=vs) (X:=X) C (by simpa using hc) (by simpa using hd) he
 simp only[Sem.run_bind]
 rw[key]
 cases b<;>rfl
theorem Pp {n:Nat} (ht:P.underlying t=some (.struct O)) (hi:(P.info? t).isSome=true) (hn:P.cellsOf t=n):(part t vs.toArray o).run P w= .ok (.agg ((vs.drop o).take n).toArray) w:=by
 simp[part,rt ht,nx,f5 hi,hn,List.extract_eq_take_drop]
theorem y7:∀ (n:Nat) {kks:List KK} {cs J:List DV} {b:Bool},n<=kks.length->c4 kks cs J=some b->∃ p q,c4 (kks.take n) (cs.take n) (J.take n)=some p/\c4 (kks.drop n) (cs.drop n) (J.drop n)=some q/\b=(p&&q)
 |0,kks,cs,J,b,_,h=>⟨true,b,by simp[c4],by simpa using h,by simp⟩
 |n+1,[],_,_,_,hn,_=>by simp at hn
 |n+1,kk::kks,[],J,b,_,h=>by cases J<;>simp[c4] at h
 |n+1,kk::kks,c::cs,[],b,_,h=>by simp[c4] at h
 |n+1,kk::kks,c::cs,d::J,b,hn,h=>by
  simp only[c4] at h
  split at h
  ·rename_i p q Y hq
   simp only[Vi] at h
   obtain⟨e,q',h1,h2,E⟩:=y7 n (by simpa using hn) hq
   refine⟨p&&e,q', ?_,by simpa using h2, ?_⟩
   ·simp only[Xd,c4,Y,h1]
   ·rw[<-h,E,Bool.and_assoc]
  ·cases h
theorem yk (d:Nat) {vs X:List Value} (n:∀ f:Field,Decidable (f.name= "_")) (o:∀ x:Bool,Decidable (x=false)):∀ {O:List Field} {kks:List KK} {k:Nat} {cs J:List DV} {b:Bool},A6 P k O kks=true->aM w M cs (vs.drop k)->aM w M J (X.drop k)->c4 kks cs J=some b->
  (forIn O ((none:Option Bool),()) (fun(f:Field) (z:Option Bool×Unit)=>
      @ite _ (f.name= "_") (n f) (pure (ForInStep.yield (none,())):Sem (ForInStep (Option Bool×Unit)))<|do
       let __do_lift <-part f.type vs.toArray f.offset
       let __do_lift_1 <-part f.type X.toArray f.offset
       let __do_lift <-Op.equalIn (d+1+1) f.type __do_lift __do_lift_1
       @ite _ (__do_lift=false) (o __do_lift) (pure (ForInStep.done (some false,()))) (pure (ForInStep.yield (none,()))))).run P w= .ok ((if b then none else some false),()) w
 |[],[],k,cs,J,b,C,hc,hd,he=>by
  cases cs with
  |nil=>cases J with
   |nil=>simp[c4] at he;subst he;simp
   |cons _ _=>simp[c4] at he
  |cons _ _=>simp[c4] at he
 |[],_::_,k,cs,J,b,C,_,_,_=>by simp[A6] at C
 |f::O,kks,k,cs,J,b,C,hc,hd,he=>by
  unfold A6 at C
  simp only[Vj,Vz,bne_iff_ne] at C
  obtain⟨⟨rfl,h⟩,C⟩:=C
  split at C
  ·rename_i gs ht
   simp only[Vj,Wb,Vv,Vz] at C
   obtain⟨⟨⟨⟨⟨hs,R⟩,hi⟩,F⟩,s0⟩,C⟩:=C
   obtain⟨p,q,e1,e2,rfl⟩:=y7 gs.size s0 he
   obtain⟨T,c2⟩:=aM.cut gs.size hc
   obtain⟨H,d2⟩:=aM.cut gs.size hd
   rw[Wr] at c2 d2
   have B:=BM (P:=P) (w:=w) (M:=M) d ht hs R T H e1
   have ih:=yk d n o (vs:=vs) (X:=X) C c2 d2 e2
   simp only[List.forIn_cons,WU h,Sem.run_bind,Pp ht hi F,Result.andThen_ok,B]
   cases p with
   |false=>simp
   |true=>
    simp only[Xv,VQ,Sem.run_pure,Result.andThen_ok,ih,V3]
  ·split at C
   ·rename_i kk m
    simp only[Vj,Vz] at C
    obtain⟨i,C⟩:=C
    have ht:=xi i
    cases cs with
    |nil=>simp[c4] at he
    |cons c cs=>
     cases J with
     |nil=>simp[c4] at he
     |cons e J=>
      simp only[c4] at he
      split at he
      ·rename_i p q Y hq
       simp only[Vi] at he
       subst he
       unfold aM at hc hd
       obtain⟨v,A,hv,s,hc⟩:=hc
       obtain⟨u,g,hu,t,hd⟩:=hd
       have r:vs[f.offset]?=some v:=by
        have:=Wf (fun l:List Value=>l[0]?) hv
        simpa[Wp] using this
       have y:X[f.offset]?=some u:=by
        have:=Wf (fun l:List Value=>l[0]?) hu
        simpa[Wp] using this
       have s5:vs.drop (f.offset+1)=A:=by rw[<-Wr,hv];rfl
       have j:X.drop (f.offset+1)=g:=by rw[<-Wr,hu];rfl
       have B:=CU (P:=P) (w:=w) (M:=M) ht s t Y (d+1)
       have ih:=yk d n o (vs:=vs) (X:=X) C (by rw[s5];exact hc) (by rw[j];exact hd) hq
       simp only[List.forIn_cons,WU h,Sem.run_bind,Cg ht r,Cg ht y,Result.andThen_ok,B]
       cases p with
       |false=>simp
       |true=>
        simp only[Xv,VQ,Sem.run_pure,Result.andThen_ok,ih,V3]
      ·cases he
   ·cases C
theorem EG (ht:P.underlying t=some (.struct O)) (hs:P.stoodInHeld t=false) (C:A6 P 0 O.toList kks=true) (hc:aM w M cs vs) (hd:aM w M J X) (he:c4 kks cs J=some b):
  (Op.equal t (.agg vs.toArray) (.agg X.toArray)).run P w= .ok b w:=by
 unfold Op.equal
 rw[show Op.maxDepth=9997+1+1+1 from rfl,Op.equalIn]
 simp only[Sem.run_bind,run_underlying ht,Result.andThen_ok,program,Sem.run,hs]
 simp only[Vw,VQ,ne_eq,ite_not,Wb]
 rw[<-Array.forIn_toList]
 have key:=fun n o=>yk (P:=P) (w:=w) (M:=M) 9997 n o (vs:=vs) (X:=X) C (by simpa using hc) (by simpa using hd) he
 simp only[Sem.run_bind]
 rw[key]
 cases b<;>rfl
theorem Fe (ht:P.underlying t=some (.struct O)) (hs:P.stoodInHeld t=false) (L:P.eqGuardType P.depth t=false) (C:A6 P 0 O.toList kks=true) (hx:bf w M (.agg cs) (a.eval V)) (hy:bf w M (.agg J) (a.eval g)) (he:c4 kks cs J=some b) (u6:op= .eql\/op= .neq):
  f3 P a ⟨dst,.binOp op t V g t2,ty,pos,S,gd⟩ w M κ (.d (.bool (match op with| .eql=>b|_=> !b))):=by
 unfold bf at hx hy
 obtain⟨vs,i,_,e⟩:=hx
 obtain⟨X,c,_,h0⟩:=hy
 have B:=EG (P:=P) ht hs C e h0 he
 have d:(eqGuard op t V g (.agg vs.toArray) (.agg X.toArray)).run P w= .ok () w:=by
  rcases u6 with rfl|rfl<;>simp[eqGuard,program,Sem.run,L]
 rcases u6 with rfl|rfl
 ·exact aQ (v:= .bool b) (by simp only[execOp,i,c,Sem.run_bind,d,Result.andThen_ok,binOp,B,Sem.run_pure]) (by simp[al,bf])
 ·exact aQ (v:= .bool !b) (by simp only[execOp,i,c,Sem.run_bind,d,Result.andThen_ok,binOp,B,Sem.run_pure]) (by simp[al,bf])
end
