/-
  My text.
-/
import Derived.KernelRfl
import Derived.Calls
import Derived.Orders
import Derived.Below
import Derived.WalkKit
import Derived.Lib.FrozenHead
namespace Go.Proofs.YtgmnipfafmphaaaGreatDoor
theorem oK {p:Prop} (h:p:=by kernel_rfl):p:=h
theorem oM {p:Prop} (h:p:=by omega):p:=h
theorem oS {p:Prop} (h:p:=by simp):p:=h
theorem oD {p:Prop} (h:p:=by decide):p:=h
theorem oT {p:Prop} (h:p:=by (simp;omega)):p:=h
theorem oA {p:Prop} (h:p:=by assumption):p:=h
theorem oL {p:Prop} (h:p:=by (simp only[List.length_cons,List.length_nil];omega)):p:=h
theorem SN:type_of% @Option.some.injEq:=@Option.some.injEq
theorem SQ:type_of% @Option.bind_some:=@Option.bind_some
theorem SR:type_of% @Bool.and_eq_true:=@Bool.and_eq_true
theorem SS:type_of% @List.length_append:=@List.length_append
theorem ST:type_of% @List.length_cons:=@List.length_cons
theorem SU:type_of% @Prod.mk.injEq:=@Prod.mk.injEq
theorem SW:type_of% @List.mem_of_getElem?:=@List.mem_of_getElem?
theorem SY:type_of% @List.getElem?_eq_some_iff:=@List.getElem?_eq_some_iff
theorem SZ:type_of% @Nat.le_refl:=@Nat.le_refl
theorem S0:type_of% @List.getElem?_eq_getElem:=@List.getElem?_eq_getElem
theorem S3:type_of% @List.length_nil:=@List.length_nil
theorem S4:type_of% @cond_true:=@cond_true
theorem S5:type_of% @decide_eq_true_eq:=@decide_eq_true_eq
theorem S6:type_of% @List.append_assoc:=@List.append_assoc
theorem S7:type_of% @cond_false:=@cond_false
theorem S8:type_of% @List.nil_append:=@List.nil_append
theorem S9:type_of% @Bool.not_true:=@Bool.not_true
theorem S_:type_of% @beq_iff_eq:=@beq_iff_eq
theorem Ta:type_of% @List.length_eq_zero_iff:=@List.length_eq_zero_iff
theorem Tb:type_of% @Bool.false_eq_true:=@Bool.false_eq_true
theorem Tc:type_of% @List.map_cons:=@List.map_cons
theorem Td:type_of% @List.cons_append:=@List.cons_append
theorem Te:type_of% @List.mem_append:=@List.mem_append
theorem Tf:type_of% @List.mem_cons:=@List.mem_cons
theorem Tg:type_of% @List.append_nil:=@List.append_nil
theorem Th:type_of% @List.length_take:=@List.length_take
theorem Ti:type_of% @List.all_eq_true:=@List.all_eq_true
theorem Tj:type_of% @List.mem_singleton:=@List.mem_singleton
theorem Tk:type_of% @decide_eq_false_iff_not:=@decide_eq_false_iff_not
theorem Tl:type_of% @List.take_append_drop:=@List.take_append_drop
theorem Tm:type_of% @Bool.not_false:=@Bool.not_false
theorem Tn:type_of% @List.length_replicate:=@List.length_replicate
theorem To:type_of% @List.mem_cons_of_mem:=@List.mem_cons_of_mem
theorem Tp:type_of% @List.mem_map:=@List.mem_map
theorem Tq:type_of% @if_false:=@if_false
theorem Tr:type_of% @List.getElem?_append_right:=@List.getElem?_append_right
theorem Ts:type_of% @Array.getElem?_eq_some_iff:=@Array.getElem?_eq_some_iff
theorem Tt:type_of% @List.take_of_length_le:=@List.take_of_length_le
theorem Tu:type_of% @List.flatMap_cons:=@List.flatMap_cons
theorem Tv:type_of% @List.mem_of_mem_take:=@List.mem_of_mem_take
theorem Tw:type_of% @List.length_singleton:=@List.length_singleton
theorem Tx:type_of% @Nat.zero_add:=@Nat.zero_add
theorem Ty:type_of% @Nat.lt_or_ge:=@Nat.lt_or_ge
theorem Tz:type_of% @List.getElem?_cons_zero:=@List.getElem?_cons_zero
theorem TA:type_of% @decide_true:=@decide_true
theorem TB:type_of% @if_true:=@if_true
theorem TC:type_of% @List.getElem?_map:=@List.getElem?_map
theorem TD:type_of% @List.nodup_append:=@List.nodup_append
theorem TE:type_of% @Bool.or_eq_true:=@Bool.or_eq_true
theorem TF:type_of% @List.flatten_cons:=@List.flatten_cons
theorem TG:type_of% @List.cons.injEq:=@List.cons.injEq
theorem TH:type_of% @Array.getD_eq_getD_getElem?:=@Array.getD_eq_getD_getElem?
theorem TI:type_of% @Bool.not_eq_true':=@Bool.not_eq_true'
theorem TJ:type_of% @Nat.lt_of_lt_of_le:=@Nat.lt_of_lt_of_le
theorem TK:type_of% @Nat.zero_le:=@Nat.zero_le
theorem TL:type_of% @List.length_map:=@List.length_map
theorem TM:type_of% @List.mem_iff_getElem:=@List.mem_iff_getElem
theorem TN:type_of% @List.mem_range:=@List.mem_range
theorem TO:type_of% @List.getElem?_cons_succ:=@List.getElem?_cons_succ
theorem TP:type_of% @List.getElem?_append_left:=@List.getElem?_append_left
theorem TQ:type_of% @List.length_drop:=@List.length_drop
theorem TR:type_of% @List.map_congr_left:=@List.map_congr_left
theorem TS:type_of% @Bool.or_eq_false_iff:=@Bool.or_eq_false_iff
theorem TT:type_of% @List.mem_append_left:=@List.mem_append_left
theorem TU:type_of% @Option.getD_some:=@Option.getD_some
theorem TV:type_of% @Bool.eq_iff_iff:=@Bool.eq_iff_iff
theorem TW:type_of% @Nat.le_trans:=@Nat.le_trans
theorem TX:type_of% @congrArg:=@congrArg
theorem TY:type_of% @List.map_append:=@List.map_append
theorem TZ:type_of% @decide_eq_false:=@decide_eq_false
theorem T0:type_of% @Option.isSome_iff_exists:=@Option.isSome_iff_exists
theorem T1:type_of% @Bool.true_and:=@Bool.true_and
theorem T2:type_of% @List.getElem?_drop:=@List.getElem?_drop
theorem T3:type_of% @List.set_append_right:=@List.set_append_right
theorem T4:type_of% @List.drop_drop:=@List.drop_drop
theorem T5:type_of% @Array.toList_inj:=@Array.toList_inj
theorem T6:type_of% @List.not_mem_nil:=@List.not_mem_nil
theorem T7:type_of% @Bool.false_or:=@Bool.false_or
theorem T8:type_of% @Nat.add_mul:=@Nat.add_mul
theorem T9:type_of% @Nat.sub_self:=@Nat.sub_self
theorem T_:type_of% @List.drop_eq_getElem_cons:=@List.drop_eq_getElem_cons
theorem Ua:type_of% @List.mem_of_mem_drop:=@List.mem_of_mem_drop
theorem Ub:type_of% @List.getElem?_take:=@List.getElem?_take
theorem Uc:type_of% @List.getElem?_set_self:=@List.getElem?_set_self
theorem Ud:type_of% @UInt8.toNat_ofNat_of_lt':=@UInt8.toNat_ofNat_of_lt'
theorem Ue:type_of% @Int.toNat_natCast:=@Int.toNat_natCast
theorem Uf:type_of% @Option.map_some:=@Option.map_some
theorem Ug:type_of% @List.map_nil:=@List.map_nil
theorem Uh:type_of% @Bool.not_eq_true:=@Bool.not_eq_true
theorem Ui:type_of% @List.drop_of_length_le:=@List.drop_of_length_le
theorem Uj:type_of% @Array.getElem?_eq_getElem:=@Array.getElem?_eq_getElem
theorem Uk:type_of% @List.all_cons:=@List.all_cons
theorem Ul:type_of% @Nat.add_zero:=@Nat.add_zero
theorem Um:type_of% @List.getElem?_take_of_lt:=@List.getElem?_take_of_lt
theorem Un:type_of% @Array.all_eq_true_iff_forall_mem:=@Array.all_eq_true_iff_forall_mem
theorem Uo:type_of% @List.drop_eq_nil_of_le:=@List.drop_eq_nil_of_le
theorem Up:type_of% @UInt8.toNat_inj:=@UInt8.toNat_inj
theorem Uq:type_of% @Option.some.inj:=@Option.some.inj
theorem Ur:type_of% @List.take_append_of_le_length:=@List.take_append_of_le_length
theorem Us:type_of% @List.map_map:=@List.map_map
theorem Ut:type_of% @List.mem_flatMap:=@List.mem_flatMap
theorem Uu:type_of% @Nat.lt_or_eq_of_le:=@Nat.lt_or_eq_of_le
theorem Uv:type_of% @List.Sublist.refl:=@List.Sublist.refl
theorem Uw:type_of% @Array.size_push:=@Array.size_push
theorem Ux:type_of% @List.length_pos_iff:=@List.length_pos_iff
theorem Uy:type_of% @List.eq_nil_or_concat:=@List.eq_nil_or_concat
theorem Uz:type_of% @List.concat_eq_append:=@List.concat_eq_append
theorem UA:type_of% @List.pairwise_cons:=@List.pairwise_cons
theorem UB:type_of% @Bool.or_self:=@Bool.or_self
theorem UC:type_of% @Nat.mul_le_mul_right:=@Nat.mul_le_mul_right
theorem UD:type_of% @Option.some_get:=@Option.some_get
theorem UE:type_of% @List.any_eq_false:=@List.any_eq_false
theorem UF:type_of% @List.mem_map_of_mem:=@List.mem_map_of_mem
theorem UG:type_of% @List.dropWhile_cons:=@List.dropWhile_cons
theorem UH:type_of% @List.take_succ_cons:=@List.take_succ_cons
theorem UI:type_of% @List.drop_left:=@List.drop_left
theorem UJ:type_of% @List.take_length:=@List.take_length
theorem UK:type_of% @List.dropLast_concat_getLast:=@List.dropLast_concat_getLast
theorem UL:type_of% @Option.getD_none:=@Option.getD_none
theorem UM:type_of% @List.any_eq_true:=@List.any_eq_true
theorem UN:type_of% @List.zipWith_cons_cons:=@List.zipWith_cons_cons
theorem UO:type_of% @decide_false:=@decide_false
theorem UP:type_of% @Nat.add_sub_cancel:=@Nat.add_sub_cancel
theorem UQ:type_of% @List.nodup_cons:=@List.nodup_cons
theorem UR:type_of% @Nat.min_eq_left:=@Nat.min_eq_left
theorem US:type_of% @List.foldl_cons:=@List.foldl_cons
theorem UT:type_of% @of_decide_eq_true:=@of_decide_eq_true
theorem UU:type_of% @decide_eq_true:=@decide_eq_true
theorem UV:type_of% @List.flatMap_append:=@List.flatMap_append
theorem UW:type_of% @beq_eq_false_iff_ne:=@beq_eq_false_iff_ne
theorem UX:type_of% @Bool.and_self:=@Bool.and_self
theorem UY:type_of% @List.sum_cons:=@List.sum_cons
theorem UZ:type_of% @List.map_take:=@List.map_take
theorem U0:type_of% @Nat.eq_zero_or_pos:=@Nat.eq_zero_or_pos
theorem U1:type_of% @List.set_cons_zero:=@List.set_cons_zero
theorem U2:type_of% @Option.map_none:=@Option.map_none
theorem U3:type_of% @List.mem_filter:=@List.mem_filter
theorem U4:type_of% @if_pos:=@if_pos
theorem U5:type_of% @List.drop_zero:=@List.drop_zero
theorem U6:type_of% @List.filterMap_append:=@List.filterMap_append
theorem U7:type_of% @Nat.add_assoc:=@Nat.add_assoc
theorem U8:type_of% @List.takeWhile_cons:=@List.takeWhile_cons
theorem U9:type_of% @List.findSome?_cons:=@List.findSome?_cons
theorem U_:type_of% @List.drop_succ_cons:=@List.drop_succ_cons
theorem Va:type_of% @List.Sublist.append:=@List.Sublist.append
theorem Vb:type_of% @List.getElem_of_mem:=@List.getElem_of_mem
theorem Vc:type_of% @List.filterMap_cons:=@List.filterMap_cons
theorem Vd:type_of% @List.length_set:=@List.length_set
theorem Ve:type_of% @Nat.zero_mul:=@Nat.zero_mul
theorem Vf:type_of% @List.set_set:=@List.set_set
theorem Vg:type_of% @Bool.false_and:=@Bool.false_and
theorem Vh:type_of% @List.map_id:=@List.map_id
set_option linter.unusedSimpArgs false
set_option linter.unusedVariables false
open Go.RowKit
inductive DV where
 |int (k:IntKind) (n:Int)
 |bool (b:Bool)
 |str (s:List UInt8)
 |slice (rows:List (List DV))
 |agg (cs:List DV)
 |tup (cs:List DV)
 |ptr (cs:List DV)
 |fn (f:FuncId) (caps:List DV)
 |raw (v:Value)
 |map (ks vs:List DV)
 |err
 |any
variable {M M':Nat->Prop} {e n sz:Nat} {v:Value} {w w':World} {xs:List Value}
mutual
def aW (w:World) (M:Nat->Prop):DV->Value->Prop
 | .int k n,v=>v= .int k n
 | .bool b,v=>v= .bool b
 | .str s,v=>v= .string ⟨s.toArray⟩
 | .slice rows,v=>∃ a N,v= .slice a rows.length N/\rows.length<=N/\(a=none->N=0)/\
   (rows=[]\/∃ b o sz,a=some ⟨b,o,none⟩/\¬ M b/\b<w.heap.size/\aQ w M rows b o sz)
 | .agg cs,v=>∃ vs:List Value,v= .agg vs.toArray/\(∀ x∈vs,x.oneCell'=true)/\aC w M cs vs
 | .tup cs,v=>∃ vs:List Value,v= .tuple vs.toArray/\aC w M cs vs
 | .ptr cs,v=>∃ b o,v= .pointer (some ⟨b,o,none⟩)/\¬ M b/\b<w.heap.size/\bw w M cs b o
 | .fn f caps,v=>∃ vs:List Value,v= .func (.func f) #[] vs.toArray/\aC w M caps vs
 | .raw u,v=>v=u
 | .map _ _,_=>False
 | .err,v=>∃ t u,v= .iface t u
 | .any,_=>True
def aC (w:World) (M:Nat->Prop):List DV->List Value->Prop
 |[],vs=>vs=[]
 |c::cs,vs=>∃ u R,vs=u::R/\aW w M c u/\aC w M cs R
def bw (w:World) (M:Nat->Prop):List DV->Nat->Nat->Prop
 |[],_,_=>True
 |c::cs,b,o=>(∃ v,w.cell? ⟨b,o,none⟩=some v/\v.oneCell'=true/\aW w M c v)/\bw w M cs b (o+1)
def aQ (w:World) (M:Nat->Prop):List (List DV)->Nat->Nat->Nat->Prop
 |[],_,_,_=>True
 |r::rs,b,o,sz=>r.length=sz/\bw w M r b o/\aQ w M rs b (o+sz) sz
end
structure jE (w:World) (M:Nat->Prop) (w':World) (M':Nat->Prop):Prop where
 size:w.heap.size<=w'.heap.size
 keep:∀ b,b<w.heap.size->¬ M b->w'.heap[b]?=w.heap[b]?/\¬ M' b
theorem jE.cell (h:jE w M w' M') {b o:Nat} (hb:b<w.heap.size) (Z:¬ M b):
  w'.cell? ⟨b,o,none⟩=w.cell? ⟨b,o,none⟩:=by
 unfold World.cell?;simp only;rw[(h.keep b hb Z).1]
theorem jE.shrink (h:∀ b,M' b->M b):jE w M w M':=
 ⟨SZ _,fun b _ Z=>⟨rfl,fun h'=>Z (h b h')⟩⟩
mutual
theorem aW.ext {w w':World} {M M':Nat->Prop} (h:jE w M w' M'):∀ (d:DV) (v:Value),aW w M d v->aW w' M' d v
 | .int _ _,_,D=>by unfold aW at *;exact D
 | .bool _,_,D=>by unfold aW at *;exact D
 | .str _,_,D=>by unfold aW at *;exact D
 | .slice rows,v,D=>by
  unfold aW at *
  obtain⟨a,N,hv,hl,hn,hc⟩:=D
  refine⟨a,N,hv,hl,hn, ?_⟩
  rcases hc with hc|⟨b,o,sz,ha,Z,hb,K⟩
  ·exact .inl hc
  ·exact .inr ⟨b,o,sz,ha,(h.keep b hb Z).2,TJ hb h.size,aQ.ext h rows b o sz hb Z K⟩
 | .agg cs,v,D=>by
  unfold aW at *
  obtain⟨vs,hv,h1,hl⟩:=D
  exact⟨vs,hv,h1,aC.ext h cs vs hl⟩
 | .tup cs,v,D=>by
  unfold aW at *
  obtain⟨vs,hv,hl⟩:=D
  exact⟨vs,hv,aC.ext h cs vs hl⟩
 | .ptr cs,v,D=>by
  unfold aW at *
  obtain⟨b,o,hv,Z,hb,hc⟩:=D
  exact⟨b,o,hv,(h.keep b hb Z).2,TJ hb h.size,bw.ext h cs b o hb Z hc⟩
 | .fn _ caps,v,D=>by
  unfold aW at *
  obtain⟨vs,hv,hl⟩:=D
  exact⟨vs,hv,aC.ext h caps vs hl⟩
 | .raw _,_,D=>by unfold aW at *;exact D
 | .map _ _,_,D=>by unfold aW at D;exact D.elim
 | .err,_,D=>by unfold aW at *;exact D
 | .any,_,_=>by unfold aW;trivial
theorem aC.ext {w w':World} {M M':Nat->Prop} (h:jE w M w' M'):∀ (cs:List DV) (vs:List Value),aC w M cs vs->aC w' M' cs vs
 |[],_,D=>by unfold aC at *;exact D
 |c::cs,vs,D=>by
  unfold aC at *
  obtain⟨u,R,hv,h1,h2⟩:=D
  exact⟨u,R,hv,aW.ext h c u h1,aC.ext h cs R h2⟩
theorem bw.ext {w w':World} {M M':Nat->Prop} (h:jE w M w' M'):∀ (cs:List DV) (b o:Nat),b<w.heap.size->¬ M b->bw w M cs b o->bw w' M' cs b o
 |[],_,_,_,_,_=>by unfold bw;trivial
 |c::cs,b,o,hb,Z,D=>by
  unfold bw at *
  obtain⟨⟨v,hv,h1,hc⟩,i⟩:=D
  exact⟨⟨v,by rw[h.cell hb Z];exact hv,h1,aW.ext h c v hc⟩,bw.ext h cs b (o+1) hb Z i⟩
theorem aQ.ext {w w':World} {M M':Nat->Prop} (h:jE w M w' M'):∀ (rs:List (List DV)) (b o sz:Nat),b<w.heap.size->¬ M b->aQ w M rs b o sz->aQ w' M' rs b o sz
 |[],_,_,_,_,_,_=>by unfold aQ;trivial
 |r::rs,b,o,sz,hb,Z,D=>by
  unfold aQ at *
  obtain⟨h1,h2,E⟩:=D
  exact⟨h1,bw.ext h r b o hb Z h2,aQ.ext h rs b (o+sz) sz hb Z E⟩
end
def jW (P:Program) (f:FuncId):Bool:=
 match P.funcs[f]? with
 |some fn=>fn.body.isSome&&fn.name != "runtime.NumGoroutine"
 |none=>false
inductive KK where
 |str
 |int (k:IntKind)
 |bool
 deriving DecidableEq
def KK.fits:KK->DV->Bool
 | .str,.str _=>true
 | .int k,.int k' _=>decide (k=k')
 | .bool,.bool _=>true
 |_,_=>false
def ir:DV->Option Value
 | .int k n=>some (.int k n)
 | .str s=>some (.string ⟨s.toArray⟩)
 | .bool b=>some (.bool b)
 |_=>none
inductive bj where
 |sh
 |sl (e:Nat) (ms:List bj)
 |pt (ms:List bj)
 |mp (kk:KK) (m:bj)
 |bld (T e:Nat)
def sc:Value->Option Nat
 | .pointer (some a)=>some a.block
 | .slice (some a) _ _=>some a.block
 | .map (some r)=>some r
 |_=>none
def fz (v:Value):List Nat:=(sc v).toList
def fE (R:List DV->List Value->List Nat->Prop):List (List DV)->List Value->List Nat->Prop
 |[],xs,G=>xs=[]/\G=[]
 |r::rs,xs,G=>∃ ys zs G1 G2,xs=ys++zs/\G=G1++G2/\R r ys G1/\fE R rs zs G2
def n9 (R:DV->Value->List Nat->Prop) (kk:KK):List DV->List DV->List MapEntry->List Nat->Prop
 |[],J,es,G=>J=[]/\es=[]/\G=[]
 |k::ks,J,es,G=>∃ d i e g G1 G2,J=d::i/\es=e::g/\G=G1++G2/\kk.fits k=true/\ir k=some e.key/\R d e.val G1/\n9 R kk ks i g G2
def GM (es:List MapEntry) (s:Nat):Prop:=(∀ e∈es,e.born<s)/\(es.map (·.born)).Nodup
def yi (w:World) (T e:Nat) (bs:List UInt8) (v:Value) (F:List Nat):Prop:=
 ∃ b p u,v= .pointer (some ⟨b,0,none⟩)/\w.heap[b]?=some (.cells #[p,u] T (0,0))/\(p= .pointer none\/p= .pointer (some ⟨b,0,none⟩))/\w.ownsRowF 0 e 1 u bs.length (Lib.byteCells bs)/\F=b::fz u
mutual
def eO (w:World) (M:Nat->Prop):bj->DV->Value->List Nat->Prop
 | .sh,d,v,F=>F=[]/\aW w M d v
 | .sl e ms,d,v,F=>∃ rows xs G,d= .slice rows/\w.ownsRow 0 e ms.length v rows.length xs/\(∀ x∈xs,x.oneCell'=true)/\(∀ r∈rows,r.length=ms.length)/\
   fE (fun r ys G'=>eI w M ms r ys G') rows xs G/\F=fz v++G
 | .pt ms,d,v,F=>∃ cs b T vs G,d= .ptr cs/\v= .pointer (some ⟨b,0,none⟩)/\w.heap[b]?=some (.cells (List.toArray vs) T (0,0))/\(∀ x∈vs,x.oneCell'=true)/\eI w M ms cs vs G/\F=b::G
 | .mp kk m,d,v,F=>∃ ks J r es s G,d= .map ks J/\v= .map (some r)/\w.heap[r]?=some (.map (List.toArray es) s)/\GM es s/\n9 (fun d' v' G'=>eO w M m d' v' G') kk ks J es G/\F=r::G
 | .bld T e,d,v,F=>∃ bs,d= .str bs/\yi w T e bs v F
def eI (w:World) (M:Nat->Prop):List bj->List DV->List Value->List Nat->Prop
 |[],J,vs,F=>J=[]/\vs=[]/\F=[]
 |m::ms,J,vs,F=>∃ d i v A W F2,J=d::i/\vs=v::A/\F=W++F2/\eO w M m d v W/\eI w M ms i A F2
end
theorem fE.mono {R a:List DV->List Value->List Nat->Prop}:∀ {rows:List (List DV)} {xs:List Value} {G:List Nat},(∀ r ys G',(∀ b∈G',b∈G)->R r ys G'->a r ys G')->fE R rows xs G->fE a rows xs G
 |[],xs,G,_,h=>h
 |r::rs,xs,G,t,h=>by
  obtain⟨ys,zs,G1,G2,h1,rfl,E,h4⟩:=h
  exact⟨ys,zs,G1,G2,h1,rfl,t r ys G1 (fun b hb=>by simp[hb]) E,fE.mono (fun r ys G' hG=>t r ys G' fun b hb=>by simp[hG b hb]) h4⟩
theorem n9.mono {R a:DV->Value->List Nat->Prop} {kk:KK}:∀ {ks J:List DV} {es:List MapEntry} {G:List Nat},(∀ d v G',(∀ b∈G',b∈G)->R d v G'->a d v G')->n9 R kk ks J es G->n9 a kk ks J es G
 |[],J,es,G,_,h=>h
 |k::ks,J,es,G,t,h=>by
  obtain⟨d,i,e,g,G1,G2,h1,h2,rfl,E,h4,h5,h6⟩:=h
  exact⟨d,i,e,g,G1,G2,h1,h2,rfl,E,h4,t d e.val G1 (fun b hb=>by simp[hb]) h5,n9.mono (fun d v G' hG=>t d v G' fun b hb=>by simp[hG b hb]) h6⟩
theorem sB (hk:∀ b∈fz v,w'.heap[b]?=w.heap[b]?) (h:w.ownsRow 0 e sz v n xs):w'.ownsRow 0 e sz v n xs:=by
 refine⟨h.1, ?_⟩
 rcases h.2 with h|⟨g,N,I,hv,hb,hg,z⟩
 ·exact .inl h
 ·exact .inr ⟨g,N,I,hv,hb,by rw[hk g (by simp[fz,hv,sc])];exact hg,z⟩
theorem DO (hk:∀ b∈fz v,w'.heap[b]?=w.heap[b]?) (h:w.ownsRowF 0 e sz v n xs):w'.ownsRowF 0 e sz v n xs:=by
 refine⟨h.1, ?_⟩
 rcases h.2 with h|⟨g,N,I,l,hv,hb,hg,z⟩
 ·exact .inl h
 ·exact .inr ⟨g,N,I,l,hv,hb,by rw[hk g (by simp[fz,hv,sc])];exact hg,z⟩
theorem yi.ext {T:Nat} {bs:List UInt8} {F:List Nat} (hk:∀ b∈F,w'.heap[b]?=w.heap[b]?) (h:yi w T e bs v F):yi w' T e bs v F:=by
 obtain⟨b,p,u,h1,h2,E,h4,rfl⟩:=h
 exact⟨b,p,u,h1,by rw[hk b oS];exact h2,E,DO (fun b hb=>hk b (by simp[hb])) h4,rfl⟩
mutual
theorem eO.ext {w w':World} {M M':Nat->Prop} (h:jE w M w' M'):∀ (m:bj) (d:DV) (v:Value) (F:List Nat),(∀ b∈F,w'.heap[b]?=w.heap[b]?)->eO w M m d v F->eO w' M' m d v F
 | .sh,d,v,F,hk,D=>by
  unfold eO at *
  exact⟨D.1,D.2.ext h⟩
 | .sl e ms,d,v,F,hk,D=>by
  unfold eO at *
  obtain⟨rows,xs,G,hd,ho,h1,h2,E,rfl⟩:=D
  exact⟨rows,xs,G,hd,sB (fun b hb=>hk b (by simp[hb])) ho,h1,h2,fE.mono (fun r ys G' hG D=>eI.ext h ms r ys G' (fun b hb=>hk b (by simp[hG b hb])) D) E,rfl⟩
 | .pt ms,d,v,F,hk,D=>by
  unfold eO at *
  obtain⟨cs,b,T,vs,G,hd,hv,hh,h1,h2,rfl⟩:=D
  exact⟨cs,b,T,vs,G,hd,hv,by rw[hk b oS];exact hh,h1,eI.ext h ms cs vs G (fun b hb=>hk b (by simp[hb])) h2,rfl⟩
 | .mp kk m,d,v,F,hk,D=>by
  unfold eO at *
  obtain⟨ks,J,r,es,s,G,hd,hv,hh,hB,h1,rfl⟩:=D
  exact⟨ks,J,r,es,s,G,hd,hv,by rw[hk r oS];exact hh,hB,n9.mono (fun d v G' hG D=>eO.ext h m d v G' (fun b hb=>hk b (by simp[hG b hb])) D) h1,rfl⟩
 | .bld T e,d,v,F,hk,D=>by
  unfold eO at *
  obtain⟨bs,h1,h2⟩:=D
  exact⟨bs,h1,h2.ext hk⟩
theorem eI.ext {w w':World} {M M':Nat->Prop} (h:jE w M w' M'):∀ (ms:List bj) (J:List DV) (vs:List Value) (F:List Nat),(∀ b∈F,w'.heap[b]?=w.heap[b]?)->eI w M ms J vs F->eI w' M' ms J vs F
 |[],J,vs,F,_,D=>by unfold eI at *;exact D
 |m::ms,J,vs,F,hk,D=>by
  unfold eI at *
  obtain⟨d,i,v,A,W,F2,h1,h2,rfl,E,h4⟩:=D
  exact⟨d,i,v,A,W,F2,h1,h2,rfl,eO.ext h m d v W (fun b hb=>hk b (by simp[hb])) E,eI.ext h ms i A F2 (fun b hb=>hk b (by simp[hb])) h4⟩
end
end Go.Proofs.YtgmnipfafmphaaaGreatDoor

