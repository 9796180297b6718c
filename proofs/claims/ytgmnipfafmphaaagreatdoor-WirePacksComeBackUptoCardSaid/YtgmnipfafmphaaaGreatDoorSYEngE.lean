/-
  My text.
-/
import Derived.Test.YtgmnipfafmphaaaGreatDoorSYEngD
import Derived.Lib.Strings
import Derived.Laws.BytesArg
import Derived.Laws.Runes
import Derived.Laws.IdiomStrings
namespace Go.Proofs.YtgmnipfafmphaaaGreatDoor
set_option linter.unusedSimpArgs false
set_option linter.unusedVariables false
open Go.RowKit
variable {J:List DV} {O:Array Field} {R:List Value} {args:Array Operand} {b:Bool} {c:Value} {cs:List DV} {d:TypeDesc} {e:TypeId} {es:List MapEntry} {f g i:Operand} {k k':IntKind} {kk:KK} {kks:List KK} {l:List UInt8} {m:Int} {ms:Array (String×TypeId)} {n:Int} {o:Nat} {op:BinOp} {p:Prop} {r:Nat} {s t t2:TypeId} {ts:Array TypeId} {u v:Value} {vs:List Value} {x:Operand} {xs:List Operand} {y:SV} {z:Value}
def eJ (P:Program) (a:Act) (o:Oper) (w:World) (M:Nat->Prop) (κ:Nat->Value) (x:SV):Prop:=
 ∃ v w',(execOp a.eval o).run P w= .ok (.value v) w'/\Below w.heap.size w w'/\ai w' M κ x v
section
variable {P:Program} {a:Act} {w:World} {M:Nat->Prop} {κ:Nat->Value} {dst:Option Tmp} {ty:TypeId} {pos:String} {S:Array Edge} {gd:Option (Nat×Bool)}
theorem aI {o:Oper} {x:SV} (h:(execOp a.eval o).run P w= .ok (.value v) w) (hx:ai w M κ x v):eJ P a o w M κ x:=⟨v,w,h,Below.refl _ _,hx⟩
theorem KZ (h:ai w M κ y (a.eval x)):eJ P a ⟨dst,.move x,ty,pos,S,gd⟩ w M κ y:=aI (by simp[execOp]) h
theorem DR (h:ai w M κ y (a.eval x)):eJ P a ⟨dst,.assign x,ty,pos,S,gd⟩ w M κ y:=aI (by simp[execOp]) h
theorem z1 {c y:Operand} {t:Bool} {z:SV} (hc:ai w M κ (.d (.bool t)) (a.eval c)) (h:ai w M κ z (if t then a.eval x else a.eval y)):eJ P a ⟨dst,.pick c x y,ty,pos,S,gd⟩ w M κ z:=by
 simp only[ai,aW] at hc
 refine aI (v:=if t then a.eval x else a.eval y) ?_ h
 simp[execOp,hc,asBool]
theorem nM (h:P.underlying t=some d) (w:World):(isAgg t).run P w= .ok (kq d) w:=by
 simp only[isAgg,Sem.run_bind,run_underlying h,Result.andThen_ok]
 cases d<;>simp[kq]
theorem eK (h:(P.info? t).isSome=true) (w:World):(sizeOf t).run P w= .ok (P.cellsOf t) w:=by
 obtain⟨i,hi⟩:=T0.1 h
 simp[sizeOf,typeInfo,hi,Program.cellsOf]
theorem DS (h:P.underlying t=some d) (hd:kq d=false) {b:Nat} (hc:w.cell? ⟨b,o,none⟩=some v):(loadVar t ⟨b,o,none⟩).run P w= .ok v w:=by
 simp[loadVar,nM h,hd,hc]
theorem lz (h:P.underlying t=some d) (hd:kq d=true) (hi:(P.info? t).isSome=true) {b:Nat} (hn:P.cellsOf t=vs.length) (hc:∀ j v,vs[j]?=some v->w.cell? ⟨b,o+j,none⟩=some v):(loadVar t ⟨b,o,none⟩).run P w= .ok (.agg vs.toArray) w:=by
 have:=run_loadCells_list (P:=P) w ⟨b,o,none⟩ vs (fun j v hj=>by rw[gi];exact hc j v hj)
 simp[loadVar,nM h,hd,eK hi,hn,this]
theorem xk {b:Nat} (h:P.underlying t=some d) (hd:kq d=false) (hx:a.eval x= .pointer (some ⟨b,o,none⟩)) (hc:w.cell? ⟨b,o,none⟩=some v) (hy:ai w M κ y v):eJ P a ⟨dst,.load t x,ty,pos,S,gd⟩ w M κ y:=
 aI (v:=v) (by simp[execOp,Instr.loadAt,Instr.sureAddr,hx,DS h hd hc]) hy
theorem xl {b:Nat} (h:P.underlying t=some d) (hd:kq d=true) (hi:(P.info? t).isSome=true) (hn:P.cellsOf t=vs.length) (hx:a.eval x= .pointer (some ⟨b,o,none⟩)) (hc:∀ j v,vs[j]?=some v->w.cell? ⟨b,o+j,none⟩=some v) (hy:ai w M κ y (.agg vs.toArray)):eJ P a ⟨dst,.load t x,ty,pos,S,gd⟩ w M κ y:=
 aI (v:= .agg vs.toArray) (by simp[execOp,Instr.loadAt,Instr.sureAddr,hx,lz h hd hi hn hc]) hy
theorem Jg {T:TypeId} (hM:∀ b,M b->b<w.heap.size) (hv:(a.eval x).cells=vs.toArray) (h1:∀ u∈vs,u.oneCell'=true) (hc:aC w M cs vs):
  eJ P a ⟨dst,.box T x,ty,pos,S,gd⟩ w M κ (.d (.ptr cs)):=by
 refine⟨.pointer (some ⟨w.heap.size,0,none⟩),w.alloc (.cells vs.toArray T), ?_,(Below.refl _ _).alloc (SZ _) _, ?_⟩
 ·simp only[execOp,Instr.box,newVar,newRow,newObj,hv,Sem.run_bind,Sem.run,Result.andThen_ok,Sem.run_pure]
  rfl
 ·simp only[ai,aW]
  refine⟨w.heap.size,0,rfl,fun h=>Nat.lt_irrefl _ (hM _ h),by simp, ?_⟩
  exact bw.of_row (heap_alloc_new w _) (hc.ext (jE.of_below ((Below.refl _ _).alloc (SZ _) _))) h1 oS
theorem xm {i:TypeInfo} (hi:P.info? t=some i) (hz:i.zero=some z) (hv:z.cells=vs.toArray):(execOp a.eval ⟨dst,.alloc t,ty,pos,S,gd⟩).run P w= .ok (.value (.pointer (some ⟨w.heap.size,0,none⟩))) (w.alloc (.cells vs.toArray t)):=by
 have c:(zeroValue t).run P w= .ok z w:=by simp[zeroValue,typeInfo,hi,hz]
 simp only[execOp,Instr.alloc,newVar,newRow,newObj,hv,Sem.run_bind,c,Sem.run,Result.andThen_ok,Sem.run_pure]
 rfl
theorem Fi {i:TypeInfo} (hi:P.info? t=some i) (hz:i.zero=some z) (hM:∀ b,M b->b<w.heap.size) (hv:z.cells=vs.toArray) (h1:∀ u∈vs,u.oneCell'=true) (hc:aC w M cs vs):
  eJ P a ⟨dst,.alloc t,ty,pos,S,gd⟩ w M κ (.d (.ptr cs)):=by
 refine⟨.pointer (some ⟨w.heap.size,0,none⟩),w.alloc (.cells vs.toArray t),xm hi hz hv,(Below.refl _ _).alloc (SZ _) _, ?_⟩
 simp only[ai,aW]
 refine⟨w.heap.size,0,rfl,fun h=>Nat.lt_irrefl _ (hM _ h),by simp, ?_⟩
 exact bw.of_row (heap_alloc_new w _) (hc.ext (jE.of_below ((Below.refl _ _).alloc (SZ _) _))) h1 oS
theorem xn {f:Field} {i:Nat} {b:Nat} (h:P.underlying t=some (.struct O)) (C:O[i]?=some f) (hi:(P.info? f.type).isSome=true) (hn:P.cellsOf f.type≠0) (hx:a.eval x= .pointer (some ⟨b,o,none⟩)) (hy:ai w M κ y (.pointer (some ⟨b,o+f.offset,none⟩))):eJ P a ⟨dst,.fieldAddr t x i,ty,pos,S,gd⟩ w M κ y:=
 aI (v:= .pointer (some ⟨b,o+f.offset,none⟩)) (by simp[execOp,Instr.fieldAt,Instr.sureAddr,hx,run_underlying h,C,fieldPlace,eK hi,hn,gi]) hy
theorem z6 {f:Field} {i:Nat} (h:P.underlying t=some (.struct O)) (C:O[i]?=some f) (hu:P.underlying f.type=some d) (hd:kq d=false) (hx:a.eval x= .agg vs.toArray) (hv:vs[f.offset]?=some v) (hy:ai w M κ y v):eJ P a ⟨dst,.field t x i,ty,pos,S,gd⟩ w M κ y:=
 aI (v:=v) (by simp[execOp,Instr.field,hx,run_underlying h,C,part,nM hu,hd,asAgg,hv]) hy
theorem z7 {f:Field} {i:Nat} (h:P.underlying t=some (.struct O)) (C:O[i]?=some f) (hu:P.underlying f.type=some d) (hd:kq d=true) (hi:(P.info? f.type).isSome=true) (hx:a.eval x= .agg vs.toArray) (hy:ai w M κ y (.agg ((vs.drop f.offset).take (P.cellsOf f.type)).toArray)):eJ P a ⟨dst,.field t x i,ty,pos,S,gd⟩ w M κ y:=by
 refine aI (v:= .agg ((vs.drop f.offset).take (P.cellsOf f.type)).toArray) ?_ hy
 simp[execOp,Instr.field,hx,run_underlying h,C,part,nM hu,hd,asAgg,eK hi,List.extract_eq_take_drop]
theorem xo {b len N:Nat} (h:P.underlying t=some (.slice e)) (hi:(P.info? e).isSome=true) (hx:a.eval x= .slice (some ⟨b,o,none⟩) len N) (hn:a.eval i= .int k n) (h0:0<=n) (h1:n<len) (hy:ai w M κ y (.pointer (some ⟨b,o+n.toNat * P.cellsOf e,none⟩))):
  eJ P a ⟨dst,.indexAddr t x i,ty,pos,S,gd⟩ w M κ y:=
 aI (v:= .pointer (some ⟨b,o+n.toNat * P.cellsOf e,none⟩)) (by simp[execOp,Instr.indexAt,hx,hn,asIntOf,run_underlying h,eK hi,h0,h1,gi]) hy
theorem GO {c:UInt8} (h:P.underlying t=some .string) (hx:a.eval x= .string ⟨l.toArray⟩) (hn:a.eval i= .int k n) (h0:0<=n) (hc:l[n.toNat]?=some c):eJ P a ⟨dst,.index t x i,ty,pos,S,gd⟩ w M κ (.d (.int .u8 c.toNat)):=by
 have hg:(⟨l.toArray⟩:ByteArray)[n.toNat]?=some c:=by
  obtain⟨X,he⟩:=SY.1 hc
  rw[getElem?_pos (⟨l.toArray⟩:ByteArray) n.toNat X]
  simp only[SN]
  exact he
 refine aI (v:= .int .u8 c.toNat) ?_ (by simp[ai,aW])
 simp[execOp,Instr.index,hx,hn,asIntOf,run_underlying h,h0,hg]
theorem H3 (a b:Int):(a==b)=decide (a=b):=by rw[TV];simp
theorem Ny (a b:Int):(a !=b)=decide (a≠b):=by rw[TV];simp
def Fj (P:Program) (t:TypeId) (f g:Operand):DV->Prop
 | .bool _=>P.underlying t=some .bool
 | .raw _=>(mX f=true\/mX g=true)/\∃ ms,P.underlying t=some (.interface ms)
 | .err=>(mX f=true\/mX g=true)/\∃ ms,P.underlying t=some (.interface ms)
 |_=>True
theorem vY (t:TypeId) (hh:P.underlying t=some .bool) (c d:Bool) (n:Nat):(Op.equalIn (n+1) t (.bool c) (.bool d)).run P w= .ok (c==d) w:=by
 rw[Op.equalIn]
 simp[run_underlying hh]
theorem DT (t:TypeId) (hh:P.underlying t=some (.interface ms)) (n:Nat):(Op.equalIn (n+1) t .nilIface .nilIface).run P w= .ok true w:=by
 rw[Op.equalIn]
 simp[run_underlying hh]
theorem B9 (t:TypeId) (hh:P.underlying t=some (.interface ms)) (n:Nat) (u:TypeId) (v:Value):(Op.equalIn (n+1) t (.iface u v) .nilIface).run P w= .ok false w:=by
 rw[Op.equalIn]
 simp[run_underlying hh]
theorem z8 (t:TypeId) (hh:P.underlying t=some .bool) (c d:Bool):(Op.equal t (.bool c) (.bool d)).run P w= .ok (c==d) w:=vY t hh c d 9999
theorem z_ (t:TypeId) (hh:P.underlying t=some (.interface ms)):(Op.equal t .nilIface .nilIface).run P w= .ok true w:=DT t hh 9999
theorem yl (t:TypeId) (hh:P.underlying t=some (.interface ms)) (u:TypeId) (v:Value):(Op.equal t (.iface u v) .nilIface).run P w= .ok false w:=B9 t hh 9999 u v
theorem vb (t:TypeId) (hh:P.underlying t=some (.pointer e)) (q:Option Addr):(Op.equal t (.pointer q) (.pointer none)).run P w= .ok q.isNone w:=by
 unfold Op.equal
 rw[show Op.maxDepth=9999+1 from rfl,Op.equalIn]
 cases q<;>simp[run_underlying hh]
theorem K0 {x y:DV} {r:DV} (ht:Fj P t f g x) (hu:aW w M x u) (hv:aW w M y v) (h:yV op x y=some (p,r)) (Y:p):
  ∃ z,(do eqGuard op t f g u v;binOp op t u v:Sem Value).run P w= .ok z w/\aW w M r z:=by
 unfold yV at h
 split at h
 ·
  rename_i k m k' n
  simp only[aW] at hu hv
  subst hu hv
  split at h
  ·rename_i hk
   subst hk
   unfold uz at h
   split at h<;>first
    |(simp only[SN,SU] at h;obtain⟨rfl,rfl⟩:=h
      simp[eqGuard,binOp,Op.intArith,Op.intCmp,Op.intDiv,Op.intBits,Nx,aW,H3,Ny,Y];done)
    |(simp only[SN,SU] at h;obtain⟨rfl,rfl⟩:=h
      refine⟨_, ?_,rfl⟩
      simp only[eqGuard,binOp]
      first|rw[Go.shift_shr _ _ _ _ Y.1 Y.2]|rw[Go.shift_shl _ _ _ _ Y.1 Y.2]
      rfl)
    |(cases h;done)
    |skip
  ·split at h
   ·unfold uz at h
    simp only[SN,SU] at h;obtain⟨rfl,rfl⟩:=h
    refine⟨_, ?_,rfl⟩
    simp only[eqGuard,binOp]
    rw[Go.shift_shr _ _ _ _ Y.1 Y.2]
    rfl
   ·unfold uz at h
    simp only[SN,SU] at h;obtain⟨rfl,rfl⟩:=h
    refine⟨_, ?_,rfl⟩
    simp only[eqGuard,binOp]
    rw[Go.shift_shl _ _ _ _ Y.1 Y.2]
    rfl
   ·cases h
 ·
  rename_i m n
  simp only[aW] at hu hv
  subst hu hv
  have F:∀ l:List UInt8,(⟨l.toArray⟩:ByteArray).size=l.length:=fun l=>by simp[ByteArray.size]
  have C:∀ l:List UInt8,(⟨l.toArray⟩:ByteArray).toList=l:=fun l=>by rw[Lib.toList_data]
  have s:∀ l k:List UInt8,(l==k)=decide (l=k):=fun l k=>by rw[TV];simp
  unfold KX at h
  split at h
  ·simp only[SN,SU] at h;obtain⟨rfl,rfl⟩:=h
   have r1:¬ (((m.length+n.length:Nat):Int)>IntKind.i64.max):=by
    have:IntKind.i64.max=9223372036854775807:=by decide
    omega
   refine⟨.string ⟨(m++n).toArray⟩, ?_,by simp[aW]⟩
   simp only[eqGuard,binOp,Op.stringOp,F,if_neg r1]
   simp
   apply ByteArray.ext
   simp
  all_goals first
   |(simp only[SN,SU] at h;obtain⟨rfl,rfl⟩:=h
     simp[eqGuard,binOp,Op.stringOp,aW,C,s];done)
   |(cases h;done)
 ·rename_i m n
  simp only[aW] at hu hv
  subst hu hv
  have q:P.underlying t=some .bool:=ht
  have s:∀ c d:Bool,(c==d)=decide (c=d):=fun c d=>by cases c<;>cases d<;>rfl
  split at h
  ·simp only[SN,SU] at h;obtain⟨rfl,rfl⟩:=h
   exact⟨.bool (decide (m=n)),by simp[eqGuard,binOp,z8 t q,s],by simp[aW]⟩
  ·simp only[SN,SU] at h;obtain⟨rfl,rfl⟩:=h
   exact⟨.bool (decide (m≠n)),by simp[eqGuard,binOp,z8 t q,s],by simp[aW]⟩
  ·cases h
 ·simp only[aW] at hu hv
  subst hu hv
  obtain⟨ht,ms,j⟩:=ht
  have hg:(eqGuard op t f g .nilIface .nilIface).run P w= .ok () w:=by
   rcases ht with ht|ht
   ·cases f<;>simp[mX] at ht
    cases op<;>simp[eqGuard]
   ·cases g<;>simp[mX] at ht
    cases op<;>simp[eqGuard]
  split at h
  ·simp only[SN,SU] at h;obtain⟨rfl,rfl⟩:=h
   exact⟨.bool true,by simp[hg,binOp,z_ t j],by simp[aW]⟩
  ·simp only[SN,SU] at h;obtain⟨rfl,rfl⟩:=h
   exact⟨.bool false,by simp[hg,binOp,z_ t j],by simp[aW]⟩
  ·cases h
 ·simp only[aW] at hu hv
  obtain⟨b,e,rfl⟩:=hu
  subst hv
  obtain⟨ht,ms,j⟩:=ht
  split at h
  ·simp only[SN,SU] at h;obtain⟨rfl,rfl⟩:=h
   exact⟨.bool false,by simp[eqGuard,binOp,yl t j],by simp[aW]⟩
  ·simp only[SN,SU] at h;obtain⟨rfl,rfl⟩:=h
   exact⟨.bool true,by simp[eqGuard,binOp,yl t j],by simp[aW]⟩
  ·cases h
 ·cases h
theorem pI {x y:DV} {r:DV} (ht:Fj P t f g x) (hu:aW w M x (a.eval f)) (hv:aW w M y (a.eval g)) (h:yV op x y=some (p,r)) (Y:p):
  eJ P a ⟨dst,.binOp op t f g t2,ty,pos,S,gd⟩ w M κ (.d r):=by
 obtain⟨z,hz,D⟩:=K0 ht hu hv h Y
 simp only[Sem.run_bind] at hz
 exact aI (v:=z) (by simp only[execOp,Sem.run_bind,hz,Result.andThen_ok,Sem.run_pure]) (by simpa[ai] using D)
theorem Jh (hx:a.eval x= .bool b):eJ P a ⟨dst,.unOp .not t x,ty,pos,S,gd⟩ w M κ (.d (.bool !b)):=
 aI (v:= .bool !b) (by simp[execOp,Op.unary,hx]) (by simp[ai,aW])
theorem Ji (hx:a.eval x= .int k n):eJ P a ⟨dst,.unOp .neg t x,ty,pos,S,gd⟩ w M κ (.d (.int k (k.wrap (0 - n)))):=
 aI (v:= .int k (k.wrap (0 - n))) (by simp[execOp,Op.unary,hx,Op.intArith]) (by simp[ai,aW])
theorem Jj (hs:(P.underlying s).isSome=true) (ht:P.underlying t=some (.int k)) (hx:a.eval x= .int k' n):eJ P a ⟨dst,.convert s t x,ty,pos,S,gd⟩ w M κ (.d (.int k (k.wrap n))):=by
 obtain⟨d',r2⟩:=T0.mp hs
 exact aI (v:= .int k (k.wrap n)) (by simp[execOp,convert,run_underlying r2,run_underlying ht,hx,Conv.intToInt]) (by simp[ai,aW])
theorem GP (hs:P.underlying s=some (.int k)) (ht:P.underlying t=some .string) (hx:a.eval x= .int k' n):eJ P a ⟨dst,.convert s t x,ty,pos,S,gd⟩ w M κ (.d (.str (Utf8.encode n).data.toList)):=by
 refine aI (v:= .string (Utf8.encode n)) ?_ (by simp only[ai,aW])
 have h:=run_convert_int_string (P:=P) w s t k' n (by rw[hs];rfl) ht
 simp only[execOp,hx,Sem.run_bind,h,Result.andThen_ok,Sem.run_pure]
def Nz (w:World) (v:Value) (l:List UInt8):Prop:=∃ ad N,v= .slice ad l.length N/\(l=[]\/∃ b o,ad=some ⟨b,o,none⟩/\∀ (j:Nat) (c:UInt8),l[j]?=some c->w.cell? ⟨b,o+j,none⟩=some (.int .u8 c.toNat))
theorem ob (hs:P.underlying s=some (.slice e)) (he:P.underlying e=some (.int .u8)) (ht:P.underlying t=some .string) (hx:Nz w (a.eval x) l):eJ P a ⟨dst,.convert s t x,ty,pos,S,gd⟩ w M κ (.d (.str l)):=by
 obtain⟨ad,N,hv,hl⟩:=hx
 refine aI (v:= .string ⟨l.toArray⟩) ?_ (by simp only[ai,aW])
 have h:(convert s t (.slice ad l.length N)).run P w= .ok (.string ⟨l.toArray⟩) w:=by
  rcases hl with rfl|⟨b,o,rfl,hc⟩
  ·rw[S3,run_convert_bytes_string w s t e ad 0 N hs he ht]
   cases ad<;>simp[Conv.bytesToString,loadCells]
   all_goals rfl
  ·exact run_convert_bytes_back w s t e ⟨b,o,none⟩ N l hs he ht (fun j hj=>by
    have:=hc j l[j] (S0 hj)
    have e2:(⟨b,o,none⟩:Addr).add j=⟨b,o+j,none⟩:=by unfold Addr.add;split<;>simp_all
    rw[e2];exact this)
 simp only[execOp,hv,Sem.run_bind,h,Result.andThen_ok,Sem.run_pure]
theorem GQ (hM:∀ b,M b->b<w.heap.size) (hs:P.underlying s=some .string) (ht:P.underlying t=some (.slice e)) (he:P.underlying e=some (.int .u8)) (hx:a.eval x= .string ⟨l.toArray⟩):eJ P a ⟨dst,.convert s t x,ty,pos,S,gd⟩ w M κ (.d (.slice (l.map fun b=>[.int .u8 b.toNat]))):=by
 have h:=run_bytes_of_string (P:=P) w s t e ⟨l.toArray⟩ hs ht he
 have F:(⟨l.toArray⟩:ByteArray).size=l.length:=by simp[ByteArray.size]
 rw[F] at h
 have v0:=grownCap_ge w l.length 0 e
 refine⟨_,_,by simp only[execOp,hx,Sem.run_bind,h,Result.andThen_ok,Sem.run_pure];rfl,((Below.refl _ _).drew).alloc (SZ _) _, ?_⟩
 simp only[ai,aW]
 refine⟨some ⟨w.heap.size,0,none⟩,grownCap w l.length 0 e,by simp,by simpa using v0,by simp, ?_⟩
 by_cases hl:l=[]
 ·exact .inl (by simp[hl])
 ·refine .inr ⟨w.heap.size,0,1,rfl,fun hb=>Nat.lt_irrefl _ (hM _ hb),by simp, ?_⟩
  have key:∀ (r:List UInt8) (o:Nat),(∀ (j:Nat) (c:UInt8),r[j]?=some c->(w.drew.alloc (.cells (bytesRow ⟨l.toArray⟩ (grownCap w l.length 0 e)) e ((bytesRow ⟨l.toArray⟩ (grownCap w l.length 0 e)).size,(bytesRow ⟨l.toArray⟩ (grownCap w l.length 0 e)).size+1))).cell? ⟨w.heap.size,o+j,none⟩=some (.int .u8 c.toNat))->
    aQ (w.drew.alloc (.cells (bytesRow ⟨l.toArray⟩ (grownCap w l.length 0 e)) e ((bytesRow ⟨l.toArray⟩ (grownCap w l.length 0 e)).size,(bytesRow ⟨l.toArray⟩ (grownCap w l.length 0 e)).size+1))) M (r.map fun b=>[.int .u8 b.toNat]) w.heap.size o 1:=by
   intro r
   induction r with
   |nil=>intro o _;simp only[Ug,aQ]
   |cons c r ih=>
    intro o hc
    simp only[Tc,aQ,bw]
    refine⟨rfl,⟨⟨.int .u8 c.toNat,by simpa using hc 0 c rfl,rfl,by simp only[aW]⟩,trivial⟩,ih (o+1) fun j d hj=> ?_⟩
    have:=hc (j+1) d (by simpa using hj)
    rwa[show o+(j+1)=o+1+j by omega] at this
  refine key l 0 fun j c hj=> ?_
  have qs:j<(⟨l.toArray⟩:ByteArray).data.size:=by have:=(SY.1 hj).1;simpa using this
  have hb:=bytesRow_at ⟨l.toArray⟩ (grownCap w l.length 0 e) j qs
  have hc:(⟨l.toArray⟩:ByteArray).data[j]=c:=by
   have:=SY.1 hj
   obtain⟨h1,h2⟩:=this
   simpa using h2
  rw[hc] at hb
  have f:=heap_alloc_new w.drew (.cells (bytesRow ⟨l.toArray⟩ (grownCap w l.length 0 e)) e ((bytesRow ⟨l.toArray⟩ (grownCap w l.length 0 e)).size,(bytesRow ⟨l.toArray⟩ (grownCap w l.length 0 e)).size+1))
  have g:(w.drew.alloc (.cells (bytesRow ⟨l.toArray⟩ (grownCap w l.length 0 e)) e ((bytesRow ⟨l.toArray⟩ (grownCap w l.length 0 e)).size,(bytesRow ⟨l.toArray⟩ (grownCap w l.length 0 e)).size+1))).heap[w.heap.size]?=some (.cells (bytesRow ⟨l.toArray⟩ (grownCap w l.length 0 e)) e ((bytesRow ⟨l.toArray⟩ (grownCap w l.length 0 e)).size,(bytesRow ⟨l.toArray⟩ (grownCap w l.length 0 e)).size+1)):=f
  unfold World.cell?
  simp only[g,Tx]
  exact hb
theorem CJ {i:Nat} (hx:a.eval x= .tuple vs.toArray) (hv:vs[i]?=some v) (hy:ai w M κ y v):eJ P a ⟨dst,.extract x i,ty,pos,S,gd⟩ w M κ y:=
 aI (v:=v) (by simp[execOp,Instr.extract,hx,hv]) hy
theorem gI (g:Operand->Value) (b:Builtin) (args:Array Operand) (ts:Array TypeId):∃ cs,(execOp g ⟨dst,.call {callee:= .builtin b,args,argTypes:=ts},ty,pos,S,gd⟩).run P w=
  (builtin b ts ty cs (args.map g)).run P w:=⟨_,by simp only[execOp,resolve,Sem.run_bind,Sem.run_pure,Result.andThen_ok,invoke];rfl⟩
theorem H4 (l:List UInt8):(⟨l.toArray⟩:ByteArray).size=l.length:=by
 show l.toArray.size=_
 simp
theorem iB (ha:args.toList=[x]) (L:ts.toList=[t]) {b:Option Addr} {n c:Nat} (ht:P.underlying t=some (.slice e)) (hx:a.eval x= .slice b n c):
  eJ P a ⟨dst,.call {callee:= .builtin .len,args,argTypes:=ts},ty,pos,S,gd⟩ w M κ (.d (.int .i64 n)):=by
 have e1:args= #[x]:=by rw[<-T5];exact ha
 have e2:ts= #[t]:=by rw[<-T5];exact L
 subst e1 e2
 exact aI (v:= .int .i64 n) (by obtain⟨cs,U⟩:=gI (P:=P) (w:=w) (dst:=dst) (ty:=ty) (pos:=pos) (S:=S) (gd:=gd) a.eval .len #[x] #[t];rw[U];simp[builtin,Builtin.len_,run_underlying ht,hx,goInt]) (by simp[ai,aW])
theorem B_ (ha:args.toList=[x]) (L:ts.toList=[t]) (ht:P.underlying t=some .string) (hx:a.eval x= .string ⟨l.toArray⟩):
  eJ P a ⟨dst,.call {callee:= .builtin .len,args,argTypes:=ts},ty,pos,S,gd⟩ w M κ (.d (.int .i64 l.length)):=by
 have e1:args= #[x]:=by rw[<-T5];exact ha
 have e2:ts= #[t]:=by rw[<-T5];exact L
 subst e1 e2
 exact aI (v:= .int .i64 l.length) (by obtain⟨cs,U⟩:=gI (P:=P) (w:=w) (dst:=dst) (ty:=ty) (pos:=pos) (S:=S) (gd:=gd) a.eval .len #[x] #[t];rw[U];simp[builtin,Builtin.len_,run_underlying ht,hx,goInt,H4]) (by simp[ai,aW])
theorem Ca {k:TypeId} (ha:args.toList=[x]) (L:ts.toList=[t]) {s:Nat} (ht:P.underlying t=some (.map k e)) (hx:a.eval x= .map (some r)) (D:w.heap[r]?=some (.map es.toArray s)):
  eJ P a ⟨dst,.call {callee:= .builtin .len,args,argTypes:=ts},ty,pos,S,gd⟩ w M κ (.d (.int .i64 es.length)):=by
 have e1:args= #[x]:=by rw[<-T5];exact ha
 have e2:ts= #[t]:=by rw[<-T5];exact L
 subst e1 e2
 exact aI (v:= .int .i64 es.length) (by obtain⟨cs,U⟩:=gI (P:=P) (w:=w) (dst:=dst) (ty:=ty) (pos:=pos) (S:=S) (gd:=gd) a.eval .len #[x] #[t];rw[U];simp[builtin,Builtin.len_,run_underlying ht,hx,goInt,getObj,Sem.run,D]) (by simp[ai,aW])
theorem ym:∀ (l:List DV) (vs:List Value) (m r:Int),aC w M l vs->q8 m l=some r->(vs.foldlM Builtin.min2 (.int .i64 m)).run P w= .ok (.int .i64 r) w
 |[],vs,m,r,hl,h=>by
  unfold aC at hl;subst hl
  simp only[q8,SN] at h;subst h;rfl
 |x::l,vs,m,r,hl,h=>by
  unfold aC at hl
  obtain⟨u,R,rfl,h1,h2⟩:=hl
  unfold q8 at h
  split at h
  ·cases ‹_::_=_›
  ·rename_i B
   simp only[TG] at B
   obtain⟨rfl,rfl⟩:=B
   simp only[aW] at h1
   subst h1
   simp only[List.foldlM_cons,Builtin.min2,pure_bind]
   exact ym _ _ _ _ h2 h
  ·cases h
theorem yn:∀ (l:List DV) (vs:List Value) (m r:Int),aC w M l vs->q9 m l=some r->(vs.foldlM Builtin.max2 (.int .i64 m)).run P w= .ok (.int .i64 r) w
 |[],vs,m,r,hl,h=>by
  unfold aC at hl;subst hl
  simp only[q9,SN] at h;subst h;rfl
 |x::l,vs,m,r,hl,h=>by
  unfold aC at hl
  obtain⟨u,R,rfl,h1,h2⟩:=hl
  unfold q9 at h
  split at h
  ·cases ‹_::_=_›
  ·rename_i B
   simp only[TG] at B
   obtain⟨rfl,rfl⟩:=B
   simp only[aW] at h1
   subst h1
   simp only[List.foldlM_cons,Builtin.max2,pure_bind]
   exact yn _ _ _ _ h2 h
  ·cases h
theorem GR (ha:args.toList=x::xs) {r:Int} {l:List DV} (hx:a.eval x= .int .i64 m) (hl:aC w M l (xs.map a.eval)) (h:q8 m l=some r):
  eJ P a ⟨dst,.call {callee:= .builtin .min,args,argTypes:=ts},ty,pos,S,gd⟩ w M κ (.d (.int .i64 r)):=by
 refine aI (v:= .int .i64 r) ?_ (by simp[ai,aW])
 have:=ym (P:=P) l _ m r hl h
 obtain⟨cs,U⟩:=gI (P:=P) (w:=w) (dst:=dst) (ty:=ty) (pos:=pos) (S:=S) (gd:=gd) a.eval .min args ts
 rw[U]
 simp only[builtin,Builtin.min_,Array.toList_map,ha,Tc,hx,Sem.run_bind,this,Result.andThen_ok,Sem.run_pure]
theorem GS (ha:args.toList=x::xs) {r:Int} {l:List DV} (hx:a.eval x= .int .i64 m) (hl:aC w M l (xs.map a.eval)) (h:q9 m l=some r):
  eJ P a ⟨dst,.call {callee:= .builtin .max,args,argTypes:=ts},ty,pos,S,gd⟩ w M κ (.d (.int .i64 r)):=by
 refine aI (v:= .int .i64 r) ?_ (by simp[ai,aW])
 have:=yn (P:=P) l _ m r hl h
 obtain⟨cs,U⟩:=gI (P:=P) (w:=w) (dst:=dst) (ty:=ty) (pos:=pos) (S:=S) (gd:=gd) a.eval .max args ts
 rw[U]
 simp only[builtin,Builtin.max_,Array.toList_map,ha,Tc,hx,Sem.run_bind,this,Result.andThen_ok,Sem.run_pure]
theorem GU {f:FuncId} {first caps:Array Operand} (h0:first.size=0) {l:List DV} (hl:aC w M l (caps.toList.map a.eval)):eJ P a ⟨dst,.makeFunc (.func f) first caps,ty,pos,S,gd⟩ w M κ (.d (.fn f l)):=by
 have e1:first= #[]:=by simpa using h0
 subst e1
 refine aI (v:= .func (.func f) #[] (caps.toList.map a.eval).toArray) ?_ (by simp only[ai,aW];exact⟨_,rfl,hl⟩)
 have e:caps.map a.eval=(caps.toList.map a.eval).toArray:=by rw[<-T5];simp
 simp[execOp,Instr.makeFunc,e]
theorem xp (a b:List UInt8):((⟨a.toArray⟩:ByteArray)==⟨b.toArray⟩)=decide (a=b):=by
 show ByteArray.beq _ _=_
 rw[TV]
 simp[ByteArray.beq]
theorem CK {x:DV} (C:kk.fits x=true) (D:aW w M x v):ir x=some v:=by
 cases kk<;>cases x<;>simp[KK.fits] at C<;>simp only[aW] at D<;>subst D<;>rfl
def KK.desc:KK->TypeDesc
 | .str=> .string
 | .int k=> .int k
 | .bool=> .bool
theorem tV (h:DQ P t=some kk):P.underlying t=some kk.desc:=by
 unfold DQ at h
 split at h<;>simp at h<;>subst h<;>simpa[KK.desc]
theorem vZ {x k:DV} {d:Value} (h1:kk.fits x=true) (h2:kk.fits k=true) (E:ir x=some c) (h4:ir k=some d):Instr.sameNow kk.desc c d=some (vX x k):=by
 cases kk with
 |str=>
  cases x<;>simp[KK.fits] at h1
  cases k<;>simp[KK.fits] at h2
  rename_i a b
  simp[ir] at E h4
  subst E h4
  simp only[Instr.sameNow,KK.desc,vX,SN]
  exact xp a b
 |int q=>
  cases x<;>simp[KK.fits] at h1
  cases k<;>simp[KK.fits] at h2
  rename_i a b
  simp[ir] at E h4
  subst h1 h2 E h4
  simp only[Instr.sameNow,KK.desc,vX,TB,SN]
  rw[TV]
  simp
 |bool=>
  cases x<;>simp[KK.fits] at h1
  cases k<;>simp[KK.fits] at h2
  rename_i a b
  simp[ir] at E h4
  subst E h4
  simp only[Instr.sameNow,KK.desc,vX,SN]
  cases a<;>cases b<;>rfl
theorem xq {kk:KK} {x:DV} {c:Value} (h1:kk.fits x=true) (E:ir x=some c):∀ {kv:List (DV×SV)} {es:List MapEntry} {F:List Nat} (i:Nat),bJ w M κ kk kv es F->mf kv x=none->Instr.findNow kk.desc c es i=some none
 |[],es,F,i,Z,_=>by unfold bJ at Z;obtain⟨rfl,_⟩:=Z;rfl
 |(k,d)::kv,es,F,i,Z,hg=>by
  unfold bJ at Z
  obtain⟨e,z,W,F2,rfl,_,h2,h4,hv,Z⟩:=Z
  simp only[mf] at hg
  split at hg
  ·cases hg
  ·rename_i U
   simp only[Uh] at U
   simp only[Instr.findNow,vZ h1 h2 E h4,U]
   exact xq h1 E (i+1) Z hg
theorem xr {kk:KK} {x:DV} {d:SV} {c:Value} (h1:kk.fits x=true) (E:ir x=some c):∀ {kv:List (DV×SV)} {es:List MapEntry} {F:List Nat} (i:Nat),bJ w M κ kk kv es F->mf kv x=some d->
  ∃ j e p N q,es[j]?=some e/\Instr.findNow kk.desc c es i=some (some (i+j,e.val))/\F=p++N++q/\aO w M κ d e.val N/\e.key=c/\
   ∀ (d':SV) (v':Value) (G:List Nat),aO w M κ d' v' G->bJ w M κ kk (mg kv x d') (es.modify j fun e=>{e with key:=c,val:=v'}) (p++G++q)
 |[],es,F,i,Z,hg=>by simp[mf] at hg
 |(k,d0)::kv,es,F,i,Z,hg=>by
  unfold bJ at Z
  obtain⟨e,z,W,F2,rfl,rfl,h2,h4,hv,Z⟩:=Z
  simp only[mf] at hg
  have n:=vZ h1 h2 E h4
  split at hg
  ·rename_i B
   simp only[SN] at hg;subst hg
   have f:e.key=c:=by
    have:ir x=ir k:=by
     cases x<;>cases k<;>simp_all [vX,ir]
    rw[this,h4] at E;simpa using E
   refine⟨0,e,[],W,F2,by simp,by simp[Instr.findNow,n,B],by simp,hv,f,fun d' v' G D=> ?_⟩
   simp only[mg,B,TB,List.modify_zero_cons]
   unfold bJ
   exact⟨_,z,G,F2,rfl,by simp,h1,E,D,Z⟩
  ·rename_i U
   simp only[Uh] at U
   obtain⟨j,e',p,N,q,g1,g2,rfl,g3,g4,g5⟩:=xr h1 E (i+1) Z hg
   refine⟨j+1,e',W++p,N,q,by simpa using g1, ?_,by simp,g3,g4,fun d' v' G D=> ?_⟩
   ·simp only[Instr.findNow,n,U,g2]
    rw[show i+1+j=i+(j+1) by omega]
   ·simp only[mg,U,Tb,Tq,List.modify_succ_cons]
    unfold bJ
    exact⟨e,_,W,p++G++q,rfl,by simp,h2,h4,hv,g5 d' v' G D⟩
theorem Fk {kk:KK} {x:DV} {c:Value} (h1:kk.fits x=true) (E:ir x=some c) {b:Nat}:∀ {kv:List (DV×SV)} {es:List MapEntry} {F:List Nat},bJ w M κ kk kv es F->mf kv x=none->∀ (d':SV) (v':Value) (G:List Nat),aO w M κ d' v' G->bJ w M κ kk (mg kv x d') (es++[{key:=c,val:=v',born:=b}]) (F++G)
 |[],es,F,Z,_,d',v',G,D=>by
  unfold bJ at Z;obtain⟨rfl,rfl⟩:=Z
  simp only[mg,S8]
  unfold bJ
  exact⟨_,[],G,[],rfl,by simp,h1,E,D,by unfold bJ;exact⟨rfl,rfl⟩⟩
 |(k,d)::kv,es,F,Z,hg,d',v',G,D=>by
  unfold bJ at Z
  obtain⟨e,z,W,F2,rfl,rfl,h2,h4,hv,Z⟩:=Z
  simp only[mf] at hg
  split at hg
  ·cases hg
  ·rename_i U
   simp only[Uh] at U
   simp only[mg,U,Tb,Tq,Td]
   unfold bJ
   exact⟨e,_,W,F2++G,rfl,by simp,h2,h4,hv,Fk h1 E Z hg d' v' G D⟩
theorem sC (h:P.underlying t=some kk.desc) (v:Value) (n:Nat):(Instr.checkKey b (n+1) t v).run P w= .ok () w:=by
 rw[Instr.checkKey]
 cases kk<;>simp[run_underlying h,KK.desc]
theorem v_ (h:P.underlying t=some kk.desc) {r:Option (Nat×Value)} (C:Instr.findNow kk.desc c es 0=some r):(Instr.findKey t c es).run P w= .ok r w:=by
 simp[Instr.findKey,run_underlying h,C]
theorem Jk {z:SV} (h:H2 P e z=true):∃ v,(zeroValue e).run P w= .ok v w/\ai w M κ z v:=by
 unfold H2 at h
 split at h
 ·rename_i i hi
  cases hz:i.zero with
  |none=>simp[hz] at h
  |some v=>
   rw[hz] at h
   exact⟨v,by simp[zeroValue,typeInfo,hi,hz],oW h⟩
 ·cases h
theorem GV {kt:TypeId} {z:SV} {d:DV} {ok:Bool} {s:Nat} {kv:List (DV×SV)} {F:List Nat} (ht:P.underlying t=some (.map kt e)) (hk:DQ P kt=some kk) (hz:H2 P e z=true) (hx:a.eval x= .map (some r)) (D:w.heap[r]?=some (.map es.toArray s)) (Z:bJ w M κ kk kv es F) (C:kk.fits d=true) (r1:(uA kv d z).noOwn=true) (hd:aW w M d (a.eval i)):
  eJ P a ⟨dst,.lookup t x i ok,ty,pos,S,gd⟩ w M κ (if ok then .tup [uA kv d z,.d (.bool (H1 kv d))] else uA kv d z):=by
 have h:=tV hk
 have g:=CK C hd
 have n:∀ b,(Instr.checkKey b 10000 kt (a.eval i)).run P w= .ok () w:=fun b=>sC h _ 9999
 have A:(getObj r).run P w= .ok (.map es.toArray s) w:=by simp[getObj,Sem.run,D]
 have f:∀ (o:SV) (u:Value) (b:Bool),ai w M κ o u->ai w M κ (if ok then .tup [o,.d (.bool b)] else o) (if ok then Value.tuple #[u,.bool b] else u):=fun o u b hu=>by
  cases ok with
  |false=>simpa using hu
  |true=>
   simp only[TB,ai,aW,an]
   exact⟨[u,.bool b],rfl,u,[.bool b],rfl,hu,.bool b,[],rfl,rfl,rfl⟩
 cases hg:mf kv d with
 |none=>
  obtain⟨k,c,m⟩:=Jk (w:=w) (M:=M) (κ:=κ) hz
  have l:=v_ (P:=P) (w:=w) h (xq C g 0 Z hg)
  simp only[uA,H1,hg,UL,Option.isSome_none]
  refine aI (v:=if ok then Value.tuple #[k,.bool false] else k) ?_ (f z k false m)
  simp only[execOp,Instr.lookup,Sem.run_bind,run_underlying ht,Result.andThen_ok,hx,A,Sem.run_pure,n,l,c]
 |some d'=>
  obtain⟨j,e',_,_,_,_,g2,_,g3,_,_⟩:=xr C g 0 Z hg
  have l:=v_ (P:=P) (w:=w) h g2
  simp only[uA,H1,hg,TU,Option.isSome_some] at r1⊢
  refine aI (v:=if ok then Value.tuple #[e'.val,.bool true] else e'.val) ?_ (f d' e'.val true (aO.to_S _ _ _ r1 g3).1)
  simp only[execOp,Instr.lookup,Sem.run_bind,run_underlying ht,Result.andThen_ok,hx,A,Sem.run_pure,n,l]
theorem Aa {x y:DV} (ht:P.underlying t=some kk.desc) (hu:aW w M x u) (hv:aW w M y v) (h:nG kk x y=some b) (d:Nat):(Op.equalIn (d+1) t u v).run P w= .ok b w:=by
 cases kk with
 |str=>
  cases x<;>simp[nG] at h
  cases y<;>simp[nG] at h
  simp only[aW] at hu hv
  subst hu hv h
  rw[Op.equalIn]
  simp only[Sem.run_bind,run_underlying ht,Result.andThen_ok,KK.desc,Sem.run_pure,xp]
 |int k=>
  cases x<;>simp[nG] at h
  cases y<;>simp[nG] at h
  obtain⟨⟨rfl,rfl⟩,h⟩:=h
  simp only[aW] at hu hv
  subst hu hv h
  rw[Op.equalIn]
  simp[run_underlying ht,KK.desc,H3]
 |bool=>
  cases x<;>simp[nG] at h
  cases y<;>simp[nG] at h
  rename_i p q
  simp only[aW] at hu hv
  subst hu hv h
  rw[vY t ht]
  cases p<;>cases q<;>rfl
theorem zv (ht:P.underlying t=some kk.desc) (hv:vs[o]?=some v):(part t vs.toArray o).run P w= .ok v w:=by
 have:kq kk.desc=false:=by cases kk<;>rfl
 simp[part,nM ht,this,hv]
theorem CL (d:Nat) {vs R:List Value} (n:∀ f:Field,Decidable (f.name= "_")) (i2:∀ x:Bool,Decidable (x=false)):∀ {O:List Field} {kks:List KK} {k:Nat} {cs J:List DV} {b:Bool},zZ P k O kks=true->aC w M cs (vs.drop k)->aC w M J (R.drop k)->ci kks cs J=some b->
  (forIn O ((none:Option Bool),()) (fun(f:Field) (z:Option Bool×Unit)=>
      @ite _ (f.name= "_") (n f) (pure (ForInStep.yield (none,())):Sem (ForInStep (Option Bool×Unit)))<|do
       let __do_lift <-part f.type vs.toArray f.offset
       let __do_lift_1 <-part f.type R.toArray f.offset
       let __do_lift <-Op.equalIn (d+1) f.type __do_lift __do_lift_1
       @ite _ (__do_lift=false) (i2 __do_lift) (pure (ForInStep.done (some false,()))) (pure (ForInStep.yield (none,()))))).run P w= .ok ((if b then none else some false),()) w
 |[],[],k,cs,J,b,C,hc,hd,he=>by
  cases cs with
  |nil=>cases J with
   |nil=>simp[ci] at he;subst he;simp
   |cons _ _=>simp[ci] at he
  |cons _ _=>simp[ci] at he
 |f::O,kk::kks,k,cs,J,b,C,hc,hd,he=>by
  simp only[zZ,SR,S_,bne_iff_ne] at C
  obtain⟨⟨⟨rfl,h⟩,i⟩,C⟩:=C
  have ht:=tV i
  cases cs with
  |nil=>simp[ci] at he
  |cons c cs=>
   cases J with
   |nil=>simp[ci] at he
   |cons e J=>
    simp only[ci] at he
    split at he
    ·rename_i p q Y hq
     simp only[SN] at he
     subst he
     unfold aC at hc hd
     obtain⟨v,A,hv,s,hc⟩:=hc
     obtain⟨u,g,hu,t,hd⟩:=hd
     have r:vs[f.offset]?=some v:=by
      have:=TX (fun l:List Value=>l[0]?) hv
      simpa[T2] using this
     have y:R[f.offset]?=some u:=by
      have:=TX (fun l:List Value=>l[0]?) hu
      simpa[T2] using this
     have s6:vs.drop (f.offset+1)=A:=by rw[<-T4,hv];rfl
     have j:R.drop (f.offset+1)=g:=by rw[<-T4,hu];rfl
     have B:=Aa (P:=P) (w:=w) (M:=M) ht s t Y d
     have ih:=CL d n i2 (vs:=vs) (R:=R) C (by rw[s6];exact hc) (by rw[j];exact hd) hq
     simp only[List.forIn_cons,if_neg h,Sem.run_bind,zv ht r,zv ht y,Result.andThen_ok,B]
     cases p with
     |false=>simp
     |true=>
      simp only[Bool.true_eq_false,Tq,Sem.run_pure,Result.andThen_ok,ih,T1]
    ·cases he
 |[],_::_,k,cs,J,b,C,_,_,_=>by simp[zZ] at C
 |_::_,[],k,cs,J,b,C,_,_,_=>by simp[zZ] at C
theorem yW (d:Nat) (ht:P.underlying t=some (.struct O)) (hs:P.stoodInHeld t=false) (C:zZ P 0 O.toList kks=true) (hc:aC w M cs vs) (hd:aC w M J R) (he:ci kks cs J=some b):
  (Op.equalIn (d+1+1) t (.agg vs.toArray) (.agg R.toArray)).run P w= .ok b w:=by
 rw[Op.equalIn]
 simp only[Sem.run_bind,run_underlying ht,Result.andThen_ok,program,Sem.run,hs]
 simp only[Tb,Tq,ne_eq,ite_not,TI,pure_bind]
 rw[<-Array.forIn_toList]
 have key:=fun n i2=>CL (P:=P) (w:=w) (M:=M) d n i2 (vs:=vs) (R:=R) C (by simpa using hc) (by simpa using hd) he
 simp only[Sem.run_bind]
 rw[key]
 cases b<;>rfl
theorem NA {n:Nat} (ht:P.underlying t=some (.struct O)) (hi:(P.info? t).isSome=true) (hn:P.cellsOf t=n):(part t vs.toArray o).run P w= .ok (.agg ((vs.drop o).take n).toArray) w:=by
 simp[part,nM ht,kq,eK hi,hn,List.extract_eq_take_drop]
theorem wa:∀ (n:Nat) {kks:List KK} {cs J:List DV} {b:Bool},n<=kks.length->ci kks cs J=some b->∃ p q,ci (kks.take n) (cs.take n) (J.take n)=some p/\ci (kks.drop n) (cs.drop n) (J.drop n)=some q/\b=(p&&q)
 |0,kks,cs,J,b,_,h=>⟨true,b,by simp[ci],by simpa using h,by simp⟩
 |n+1,[],_,_,_,hn,_=>by simp at hn
 |n+1,kk::kks,[],J,b,_,h=>by cases J<;>simp[ci] at h
 |n+1,kk::kks,c::cs,[],b,_,h=>by simp[ci] at h
 |n+1,kk::kks,c::cs,d::J,b,hn,h=>by
  simp only[ci] at h
  split at h
  ·rename_i p q Y hq
   simp only[SN] at h
   obtain⟨o,q',h1,h2,E⟩:=wa n (by simpa using hn) hq
   refine⟨p&&o,q', ?_,by simpa using h2, ?_⟩
   ·simp only[UH,ci,Y,h1]
   ·rw[<-h,E,Bool.and_assoc]
  ·cases h
theorem vc (d:Nat) {vs R:List Value} (n:∀ f:Field,Decidable (f.name= "_")) (i2:∀ x:Bool,Decidable (x=false)):∀ {O:List Field} {kks:List KK} {k:Nat} {cs J:List DV} {b:Bool},yk P k O kks=true->aC w M cs (vs.drop k)->aC w M J (R.drop k)->ci kks cs J=some b->
  (forIn O ((none:Option Bool),()) (fun(f:Field) (z:Option Bool×Unit)=>
      @ite _ (f.name= "_") (n f) (pure (ForInStep.yield (none,())):Sem (ForInStep (Option Bool×Unit)))<|do
       let __do_lift <-part f.type vs.toArray f.offset
       let __do_lift_1 <-part f.type R.toArray f.offset
       let __do_lift <-Op.equalIn (d+1+1) f.type __do_lift __do_lift_1
       @ite _ (__do_lift=false) (i2 __do_lift) (pure (ForInStep.done (some false,()))) (pure (ForInStep.yield (none,()))))).run P w= .ok ((if b then none else some false),()) w
 |[],[],k,cs,J,b,C,hc,hd,he=>by
  cases cs with
  |nil=>cases J with
   |nil=>simp[ci] at he;subst he;simp
   |cons _ _=>simp[ci] at he
  |cons _ _=>simp[ci] at he
 |[],_::_,k,cs,J,b,C,_,_,_=>by simp[yk] at C
 |f::O,kks,k,cs,J,b,C,hc,hd,he=>by
  unfold yk at C
  simp only[SR,S_,bne_iff_ne] at C
  obtain⟨⟨rfl,h⟩,C⟩:=C
  split at C
  ·rename_i gs ht
   simp only[SR,TI,S5,S_] at C
   obtain⟨⟨⟨⟨⟨hs,o⟩,hi⟩,F⟩,s0⟩,C⟩:=C
   obtain⟨p,q,e1,e2,rfl⟩:=wa gs.size s0 he
   obtain⟨T,c2⟩:=aC.cut gs.size hc
   obtain⟨H,d2⟩:=aC.cut gs.size hd
   rw[T4] at c2 d2
   have B:=yW (P:=P) (w:=w) (M:=M) d ht hs o T H e1
   have ih:=vc d n i2 (vs:=vs) (R:=R) C c2 d2 e2
   simp only[List.forIn_cons,if_neg h,Sem.run_bind,NA ht hi F,Result.andThen_ok,B]
   cases p with
   |false=>simp
   |true=>
    simp only[Bool.true_eq_false,Tq,Sem.run_pure,Result.andThen_ok,ih,T1]
  ·split at C
   ·rename_i kk m
    simp only[SR,S_] at C
    obtain⟨i,C⟩:=C
    have ht:=tV i
    cases cs with
    |nil=>simp[ci] at he
    |cons c cs=>
     cases J with
     |nil=>simp[ci] at he
     |cons e J=>
      simp only[ci] at he
      split at he
      ·rename_i p q Y hq
       simp only[SN] at he
       subst he
       unfold aC at hc hd
       obtain⟨v,A,hv,s,hc⟩:=hc
       obtain⟨u,g,hu,t,hd⟩:=hd
       have r:vs[f.offset]?=some v:=by
        have:=TX (fun l:List Value=>l[0]?) hv
        simpa[T2] using this
       have y:R[f.offset]?=some u:=by
        have:=TX (fun l:List Value=>l[0]?) hu
        simpa[T2] using this
       have s6:vs.drop (f.offset+1)=A:=by rw[<-T4,hv];rfl
       have j:R.drop (f.offset+1)=g:=by rw[<-T4,hu];rfl
       have B:=Aa (P:=P) (w:=w) (M:=M) ht s t Y (d+1)
       have ih:=vc d n i2 (vs:=vs) (R:=R) C (by rw[s6];exact hc) (by rw[j];exact hd) hq
       simp only[List.forIn_cons,if_neg h,Sem.run_bind,zv ht r,zv ht y,Result.andThen_ok,B]
       cases p with
       |false=>simp
       |true=>
        simp only[Bool.true_eq_false,Tq,Sem.run_pure,Result.andThen_ok,ih,T1]
      ·cases he
   ·cases C
theorem Cb (ht:P.underlying t=some (.struct O)) (hs:P.stoodInHeld t=false) (C:yk P 0 O.toList kks=true) (hc:aC w M cs vs) (hd:aC w M J R) (he:ci kks cs J=some b):
  (Op.equal t (.agg vs.toArray) (.agg R.toArray)).run P w= .ok b w:=by
 unfold Op.equal
 rw[show Op.maxDepth=9997+1+1+1 from rfl,Op.equalIn]
 simp only[Sem.run_bind,run_underlying ht,Result.andThen_ok,program,Sem.run,hs]
 simp only[Tb,Tq,ne_eq,ite_not,TI,pure_bind]
 rw[<-Array.forIn_toList]
 have key:=fun n i2=>vc (P:=P) (w:=w) (M:=M) 9997 n i2 (vs:=vs) (R:=R) C (by simpa using hc) (by simpa using hd) he
 simp only[Sem.run_bind]
 rw[key]
 cases b<;>rfl
theorem CM (ht:P.underlying t=some (.struct O)) (hs:P.stoodInHeld t=false) (hg:P.eqGuardType P.depth t=false) (C:yk P 0 O.toList kks=true) (hx:aW w M (.agg cs) (a.eval f)) (hy:aW w M (.agg J) (a.eval g)) (he:ci kks cs J=some b) (u6:op= .eql\/op= .neq):
  eJ P a ⟨dst,.binOp op t f g t2,ty,pos,S,gd⟩ w M κ (.d (.bool (match op with| .eql=>b|_=> !b))):=by
 unfold aW at hx hy
 obtain⟨vs,i,_,e⟩:=hx
 obtain⟨R,c,_,K⟩:=hy
 have B:=Cb (P:=P) ht hs C e K he
 have d:(eqGuard op t f g (.agg vs.toArray) (.agg R.toArray)).run P w= .ok () w:=by
  rcases u6 with rfl|rfl<;>simp[eqGuard,program,Sem.run,hg]
 rcases u6 with rfl|rfl
 ·exact aI (v:= .bool b) (by simp only[execOp,i,c,Sem.run_bind,d,Result.andThen_ok,binOp,B,Sem.run_pure]) (by simp[ai,aW])
 ·exact aI (v:= .bool !b) (by simp only[execOp,i,c,Sem.run_bind,d,Result.andThen_ok,binOp,B,Sem.run_pure]) (by simp[ai,aW])
end
end Go.Proofs.YtgmnipfafmphaaaGreatDoor

