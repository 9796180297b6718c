/-
  My text.
-/
import Derived.KernelRfl
import Derived.Calls
import Derived.Orders
import Derived.Below
import Derived.WalkKit
import Derived.Lib.FrozenHead
namespace Go.Proofs.YtgmnipfafmphaaaGreatDoor
theorem oK {p:Prop} (h:p:=by kernel_rfl):p:=h
theorem oM {p:Prop} (h:p:=by omega):p:=h
theorem oS {p:Prop} (h:p:=by simp):p:=h
theorem oD {p:Prop} (h:p:=by decide):p:=h
theorem oT {p:Prop} (h:p:=by (simp;omega)):p:=h
theorem oA {p:Prop} (h:p:=by assumption):p:=h
theorem oL {p:Prop} (h:p:=by (simp only[List.length_cons,List.length_nil];omega)):p:=h
theorem Vh:type_of% @Option.bind_some:=@Option.bind_some
theorem Vi:type_of% @Option.some.injEq:=@Option.some.injEq
theorem Vj:type_of% @Bool.and_eq_true:=@Bool.and_eq_true
theorem Vk:type_of% @List.length_cons:=@List.length_cons
theorem Vl:type_of% @List.length_append:=@List.length_append
theorem Vm:type_of% @Prod.mk.injEq:=@Prod.mk.injEq
theorem Vn:type_of% @cond_false:=@cond_false
theorem Vo:type_of% @cond_true:=@cond_true
theorem Vp:type_of% @List.length_nil:=@List.length_nil
theorem Vq:type_of% @List.mem_of_getElem?:=@List.mem_of_getElem?
theorem Vr:type_of% @List.getElem?_eq_some_iff:=@List.getElem?_eq_some_iff
theorem Vs:type_of% @Nat.le_refl:=@Nat.le_refl
theorem Vt:type_of% @Bool.not_true:=@Bool.not_true
theorem Vu:type_of% @List.getElem?_eq_getElem:=@List.getElem?_eq_getElem
theorem Vv:type_of% @decide_eq_true_eq:=@decide_eq_true_eq
theorem Vw:type_of% @Bool.false_eq_true:=@Bool.false_eq_true
theorem Vx:type_of% @List.length_eq_zero_iff:=@List.length_eq_zero_iff
theorem Vy:type_of% @List.append_assoc:=@List.append_assoc
theorem Vz:type_of% @beq_iff_eq:=@beq_iff_eq
theorem VA:type_of% @List.length_take:=@List.length_take
theorem VB:type_of% @Bool.not_false:=@Bool.not_false
theorem VC:type_of% @List.nil_append:=@List.nil_append
theorem VD:type_of% @Nat.zero_add:=@Nat.zero_add
theorem VE:type_of% @List.length_replicate:=@List.length_replicate
theorem VF:type_of% @List.map_cons:=@List.map_cons
theorem VG:type_of% @List.cons_append:=@List.cons_append
theorem VH:type_of% @List.take_append_drop:=@List.take_append_drop
theorem VI:type_of% @List.length_singleton:=@List.length_singleton
theorem VJ:type_of% @decide_eq_false_iff_not:=@decide_eq_false_iff_not
theorem VK:type_of% @List.mem_cons:=@List.mem_cons
theorem VL:type_of% @List.append_nil:=@List.append_nil
theorem VM:type_of% @List.mem_append:=@List.mem_append
theorem VN:type_of% @List.all_eq_true:=@List.all_eq_true
theorem VO:type_of% @List.take_of_length_le:=@List.take_of_length_le
theorem VP:type_of% @List.getElem?_append_right:=@List.getElem?_append_right
theorem VQ:type_of% @if_false:=@if_false
theorem VR:type_of% @Nat.lt_or_ge:=@Nat.lt_or_ge
theorem VS:type_of% @decide_true:=@decide_true
theorem VT:type_of% @List.mem_map:=@List.mem_map
theorem VU:type_of% @List.mem_of_mem_take:=@List.mem_of_mem_take
theorem VV:type_of% @Array.getElem?_eq_some_iff:=@Array.getElem?_eq_some_iff
theorem VW:type_of% @if_true:=@if_true
theorem VX:type_of% @decide_eq_true:=@decide_eq_true
theorem VY:type_of% @decide_eq_false:=@decide_eq_false
theorem VZ:type_of% @List.getElem?_cons_zero:=@List.getElem?_cons_zero
theorem V0:type_of% @Nat.zero_le:=@Nat.zero_le
theorem V1:type_of% @List.mem_singleton:=@List.mem_singleton
theorem V2:type_of% @Array.getD_eq_getD_getElem?:=@Array.getD_eq_getD_getElem?
theorem V3:type_of% @Bool.true_and:=@Bool.true_and
theorem V4:type_of% @List.flatten_cons:=@List.flatten_cons
theorem V5:type_of% @List.getElem?_map:=@List.getElem?_map
theorem V6:type_of% @List.nodup_append:=@List.nodup_append
theorem V7:type_of% @List.getElem?_append_left:=@List.getElem?_append_left
theorem V8:type_of% @Bool.or_eq_true:=@Bool.or_eq_true
theorem V9:type_of% @List.cons.injEq:=@List.cons.injEq
theorem V_:type_of% @Nat.lt_of_lt_of_le:=@Nat.lt_of_lt_of_le
theorem Wa:type_of% @Bool.eq_iff_iff:=@Bool.eq_iff_iff
theorem Wb:type_of% @Bool.not_eq_true':=@Bool.not_eq_true'
theorem Wc:type_of% @List.map_congr_left:=@List.map_congr_left
theorem Wd:type_of% @List.length_drop:=@List.length_drop
theorem We:type_of% @List.set_append_right:=@List.set_append_right
theorem Wf:type_of% @congrArg:=@congrArg
theorem Wg:type_of% @List.getElem?_set_self:=@List.getElem?_set_self
theorem Wh:type_of% @List.mem_range:=@List.mem_range
theorem Wi:type_of% @Option.getD_some:=@Option.getD_some
theorem Wj:type_of% @List.length_map:=@List.length_map
theorem Wk:type_of% @List.mem_append_left:=@List.mem_append_left
theorem Wl:type_of% @List.getElem?_cons_succ:=@List.getElem?_cons_succ
theorem Wm:type_of% @Bool.false_or:=@Bool.false_or
theorem Wn:type_of% @Nat.sub_self:=@Nat.sub_self
theorem Wo:type_of% @Option.isSome_iff_exists:=@Option.isSome_iff_exists
theorem Wp:type_of% @List.getElem?_drop:=@List.getElem?_drop
theorem Wq:type_of% @List.map_append:=@List.map_append
theorem Wr:type_of% @List.drop_drop:=@List.drop_drop
theorem Ws:type_of% @Array.toList_inj:=@Array.toList_inj
theorem Wu:type_of% @List.not_mem_nil:=@List.not_mem_nil
theorem Wv:type_of% @List.all_cons:=@List.all_cons
theorem Ww:type_of% @Int.toNat_natCast:=@Int.toNat_natCast
theorem Wx:type_of% @List.mem_cons_of_mem:=@List.mem_cons_of_mem
theorem Wy:type_of% @if_pos:=@if_pos
theorem Wz:type_of% @Nat.le_trans:=@Nat.le_trans
theorem WA:type_of% @Nat.add_mul:=@Nat.add_mul
theorem WB:type_of% @List.flatMap_cons:=@List.flatMap_cons
theorem WC:type_of% @List.drop_eq_getElem_cons:=@List.drop_eq_getElem_cons
theorem WD:type_of% @List.mem_of_mem_drop:=@List.mem_of_mem_drop
theorem WE:type_of% @List.getElem?_take:=@List.getElem?_take
theorem WF:type_of% @List.take_length:=@List.take_length
theorem WG:type_of% @List.map_nil:=@List.map_nil
theorem WH:type_of% @List.getElem?_take_of_lt:=@List.getElem?_take_of_lt
theorem WI:type_of% @List.length_pos_iff:=@List.length_pos_iff
theorem WJ:type_of% @Option.map_some:=@Option.map_some
theorem WK:type_of% @Bool.not_eq_true:=@Bool.not_eq_true
theorem WL:type_of% @List.drop_of_length_le:=@List.drop_of_length_le
theorem WM:type_of% @List.drop_eq_nil_of_le:=@List.drop_eq_nil_of_le
theorem WN:type_of% @Array.getElem?_eq_getElem:=@Array.getElem?_eq_getElem
theorem WO:type_of% @Nat.add_zero:=@Nat.add_zero
theorem WP:type_of% @UInt8.toNat_ofNat_of_lt':=@UInt8.toNat_ofNat_of_lt'
theorem WR:type_of% @Array.all_eq_true_iff_forall_mem:=@Array.all_eq_true_iff_forall_mem
theorem WS:type_of% @List.mem_iff_getElem:=@List.mem_iff_getElem
theorem WU:type_of% @if_neg:=@if_neg
theorem WV:type_of% @Nat.min_eq_left:=@Nat.min_eq_left
theorem WW:type_of% @List.eq_nil_or_concat:=@List.eq_nil_or_concat
theorem WX:type_of% @List.concat_eq_append:=@List.concat_eq_append
theorem WY:type_of% @List.take_append_of_le_length:=@List.take_append_of_le_length
theorem WZ:type_of% @List.map_map:=@List.map_map
theorem W0:type_of% @List.pairwise_cons:=@List.pairwise_cons
theorem W1:type_of% @Nat.lt_or_eq_of_le:=@Nat.lt_or_eq_of_le
theorem W2:type_of% @Nat.mul_le_mul_right:=@Nat.mul_le_mul_right
theorem W3:type_of% @List.Sublist.refl:=@List.Sublist.refl
theorem W4:type_of% @UInt8.toNat_inj:=@UInt8.toNat_inj
theorem W5:type_of% @Option.some.inj:=@Option.some.inj
theorem W6:type_of% @Array.size_push:=@Array.size_push
theorem W7:type_of% @Bool.and_self:=@Bool.and_self
theorem W8:type_of% @Option.getD_none:=@Option.getD_none
theorem W9:type_of% @List.takeWhile_append_dropWhile:=@List.takeWhile_append_dropWhile
theorem W_:type_of% @Bool.or_eq_false_iff:=@Bool.or_eq_false_iff
theorem Xa:type_of% @Option.some_get:=@Option.some_get
theorem Xb:type_of% @Bool.and_true:=@Bool.and_true
theorem Xc:type_of% @Nat.add_assoc:=@Nat.add_assoc
theorem Xd:type_of% @List.take_succ_cons:=@List.take_succ_cons
theorem Xe:type_of% @List.dropLast_concat_getLast:=@List.dropLast_concat_getLast
theorem Xf:type_of% @List.zipWith_cons_cons:=@List.zipWith_cons_cons
theorem Xg:type_of% @Nat.eq_zero_or_pos:=@Nat.eq_zero_or_pos
theorem Xh:type_of% @decide_false:=@decide_false
theorem Xi:type_of% @List.set_cons_zero:=@List.set_cons_zero
theorem Xj:type_of% @Nat.add_sub_cancel:=@Nat.add_sub_cancel
theorem Xk:type_of% @Nat.lt_of_sub_pos:=@Nat.lt_of_sub_pos
theorem Xl:type_of% @List.getElem?_eq_none_iff:=@List.getElem?_eq_none_iff
theorem Xm:type_of% @List.drop_left:=@List.drop_left
theorem Xn:type_of% @Bool.or_self:=@Bool.or_self
theorem Xo:type_of% @List.eq_of_mem_replicate:=@List.eq_of_mem_replicate
theorem Xp:type_of% @Nat.zero_lt_succ:=@Nat.zero_lt_succ
theorem Xq:type_of% @List.set_set:=@List.set_set
theorem Xr:type_of% @List.any_eq_true:=@List.any_eq_true
theorem Xs:type_of% @beq_eq_false_iff_ne:=@beq_eq_false_iff_ne
theorem Xt:type_of% @List.map_take:=@List.map_take
theorem Xu:type_of% @List.all_append:=@List.all_append
theorem Xv:type_of% @Bool.true_eq_false:=@Bool.true_eq_false
theorem Xw:type_of% @Option.map_none:=@Option.map_none
theorem Xx:type_of% @List.mem_filter:=@List.mem_filter
theorem Xy:type_of% @of_decide_eq_true:=@of_decide_eq_true
theorem Xz:type_of% @List.take_add_one:=@List.take_add_one
theorem XA:type_of% @List.drop_zero:=@List.drop_zero
theorem XB:type_of% @Bool.and_false:=@Bool.and_false
theorem XC:type_of% @List.flatMap_append:=@List.flatMap_append
theorem XD:type_of% @List.findSome?_cons:=@List.findSome?_cons
theorem XE:type_of% @List.drop_succ_cons:=@List.drop_succ_cons
theorem XF:type_of% @List.Sublist.append:=@List.Sublist.append
theorem XG:type_of% @List.getElem_of_mem:=@List.getElem_of_mem
theorem XH:type_of% @List.dropWhile_cons:=@List.dropWhile_cons
theorem XI:type_of% @List.length_set:=@List.length_set
theorem XJ:type_of% @Nat.zero_lt_one:=@Nat.zero_lt_one
theorem XK:type_of% @List.nodup_cons:=@List.nodup_cons
theorem XL:type_of% @Nat.zero_mul:=@Nat.zero_mul
theorem XM:type_of% @Bool.false_and:=@Bool.false_and
theorem XN:type_of% @List.map_id:=@List.map_id
set_option linter.unusedVariables false
open Go.RowKit
inductive DV where
 |int (k:IntKind) (n:Int)
 |bool (b:Bool)
 |str (s:List UInt8)
 |slice (rows:List (List DV))
 |agg (cs:List DV)
 |tup (cs:List DV)
 |ptr (cs:List DV)
 |fn (f:FuncId) (caps:List DV)
 |raw (v:Value)
 |map (ks vs:List DV)
 |err
 |any
variable {M M':Nat->Prop} {e n sz:Nat} {v:Value} {w w':World} {xs:List Value}
mutual
def bf (w:World) (M:Nat->Prop):DV->Value->Prop
 | .int k n,v=>v= .int k n
 | .bool b,v=>v= .bool b
 | .str s,v=>v= .string ⟨s.toArray⟩
 | .slice rows,v=>∃ a N,v= .slice a rows.length N/\rows.length<=N/\(a=none->N=0)/\
   (rows=[]\/∃ b o sz,a=some ⟨b,o,none⟩/\¬ M b/\b<w.heap.size/\bd w M rows b o sz)
 | .agg cs,v=>∃ vs:List Value,v= .agg vs.toArray/\(∀ x∈vs,x.oneCell'=true)/\aM w M cs vs
 | .tup cs,v=>∃ vs:List Value,v= .tuple vs.toArray/\aM w M cs vs
 | .ptr cs,v=>∃ b o,v= .pointer (some ⟨b,o,none⟩)/\¬ M b/\b<w.heap.size/\b4 w M cs b o
 | .fn f caps,v=>∃ vs:List Value,v= .func (.func f) #[] vs.toArray/\aM w M caps vs
 | .raw u,v=>v=u
 | .map _ _,_=>False
 | .err,v=>∃ t u,v= .iface t u
 | .any,_=>True
def aM (w:World) (M:Nat->Prop):List DV->List Value->Prop
 |[],vs=>vs=[]
 |c::cs,vs=>∃ u X,vs=u::X/\bf w M c u/\aM w M cs X
def b4 (w:World) (M:Nat->Prop):List DV->Nat->Nat->Prop
 |[],_,_=>True
 |c::cs,b,o=>(∃ v,w.cell? ⟨b,o,none⟩=some v/\v.oneCell'=true/\bf w M c v)/\b4 w M cs b (o+1)
def bd (w:World) (M:Nat->Prop):List (List DV)->Nat->Nat->Nat->Prop
 |[],_,_,_=>True
 |r::rs,b,o,sz=>r.length=sz/\b4 w M r b o/\bd w M rs b (o+sz) sz
end
structure mG (w:World) (M:Nat->Prop) (w':World) (M':Nat->Prop):Prop where
 size:w.heap.size<=w'.heap.size
 keep:∀ b,b<w.heap.size->¬ M b->w'.heap[b]?=w.heap[b]?/\¬ M' b
theorem mG.cell (h:mG w M w' M') {b o:Nat} (hb:b<w.heap.size) (Z:¬ M b):
  w'.cell? ⟨b,o,none⟩=w.cell? ⟨b,o,none⟩:=by
 unfold World.cell?;simp only;rw[(h.keep b hb Z).1]
theorem mG.shrink (h:∀ b,M' b->M b):mG w M w M':=
 ⟨Vs _,fun b _ Z=>⟨rfl,fun h'=>Z (h b h')⟩⟩
mutual
theorem bf.ext {w w':World} {M M':Nat->Prop} (h:mG w M w' M'):∀ (d:DV) (v:Value),bf w M d v->bf w' M' d v
 | .int _ _,_,D=>by unfold bf at *;exact D
 | .bool _,_,D=>by unfold bf at *;exact D
 | .str _,_,D=>by unfold bf at *;exact D
 | .slice rows,v,D=>by
  unfold bf at *
  obtain⟨a,N,hv,hl,hn,hc⟩:=D
  refine⟨a,N,hv,hl,hn, ?_⟩
  rcases hc with hc|⟨b,o,sz,ha,Z,hb,Q⟩
  ·exact .inl hc
  ·exact .inr ⟨b,o,sz,ha,(h.keep b hb Z).2,V_ hb h.size,bd.ext h rows b o sz hb Z Q⟩
 | .agg cs,v,D=>by
  unfold bf at *
  obtain⟨vs,hv,h1,hl⟩:=D
  exact⟨vs,hv,h1,aM.ext h cs vs hl⟩
 | .tup cs,v,D=>by
  unfold bf at *
  obtain⟨vs,hv,hl⟩:=D
  exact⟨vs,hv,aM.ext h cs vs hl⟩
 | .ptr cs,v,D=>by
  unfold bf at *
  obtain⟨b,o,hv,Z,hb,hc⟩:=D
  exact⟨b,o,hv,(h.keep b hb Z).2,V_ hb h.size,b4.ext h cs b o hb Z hc⟩
 | .fn _ caps,v,D=>by
  unfold bf at *
  obtain⟨vs,hv,hl⟩:=D
  exact⟨vs,hv,aM.ext h caps vs hl⟩
 | .raw _,_,D=>by unfold bf at *;exact D
 | .map _ _,_,D=>by unfold bf at D;exact D.elim
 | .err,_,D=>by unfold bf at *;exact D
 | .any,_,_=>by unfold bf;trivial
theorem aM.ext {w w':World} {M M':Nat->Prop} (h:mG w M w' M'):∀ (cs:List DV) (vs:List Value),aM w M cs vs->aM w' M' cs vs
 |[],_,D=>by unfold aM at *;exact D
 |c::cs,vs,D=>by
  unfold aM at *
  obtain⟨u,X,hv,h1,h2⟩:=D
  exact⟨u,X,hv,bf.ext h c u h1,aM.ext h cs X h2⟩
theorem b4.ext {w w':World} {M M':Nat->Prop} (h:mG w M w' M'):∀ (cs:List DV) (b o:Nat),b<w.heap.size->¬ M b->b4 w M cs b o->b4 w' M' cs b o
 |[],_,_,_,_,_=>by unfold b4;trivial
 |c::cs,b,o,hb,Z,D=>by
  unfold b4 at *
  obtain⟨⟨v,hv,h1,hc⟩,i⟩:=D
  exact⟨⟨v,by rw[h.cell hb Z];exact hv,h1,bf.ext h c v hc⟩,b4.ext h cs b (o+1) hb Z i⟩
theorem bd.ext {w w':World} {M M':Nat->Prop} (h:mG w M w' M'):∀ (rs:List (List DV)) (b o sz:Nat),b<w.heap.size->¬ M b->bd w M rs b o sz->bd w' M' rs b o sz
 |[],_,_,_,_,_,_=>by unfold bd;trivial
 |r::rs,b,o,sz,hb,Z,D=>by
  unfold bd at *
  obtain⟨h1,h2,E⟩:=D
  exact⟨h1,b4.ext h r b o hb Z h2,bd.ext h rs b (o+sz) sz hb Z E⟩
end
def mV (P:Program) (f:FuncId):Bool:=
 match P.funcs[f]? with
 |some fn=>fn.body.isSome&&fn.name != "runtime.NumGoroutine"
 |none=>false
inductive KK where
 |str
 |int (k:IntKind)
 |bool
 deriving DecidableEq
def KK.fits:KK->DV->Bool
 | .str,.str _=>true
 | .int k,.int k' _=>decide (k=k')
 | .bool,.bool _=>true
 |_,_=>false
def k_:DV->Option Value
 | .int k n=>some (.int k n)
 | .str s=>some (.string ⟨s.toArray⟩)
 | .bool b=>some (.bool b)
 |_=>none
inductive bH where
 |sh
 |sl (e:Nat) (ms:List bH)
 |pt (ms:List bH)
 |mp (kk:KK) (m:bH)
 |bld (T e:Nat)
def vr:Value->Option Nat
 | .pointer (some a)=>some a.block
 | .slice (some a) _ _=>some a.block
 | .map (some r)=>some r
 |_=>none
def gT (v:Value):List Nat:=(vr v).toList
def gW (R:List DV->List Value->List Nat->Prop):List (List DV)->List Value->List Nat->Prop
 |[],xs,G=>xs=[]/\G=[]
 |r::rs,xs,G=>∃ ys zs G1 G2,xs=ys++zs/\G=G1++G2/\R r ys G1/\gW R rs zs G2
def rK (R:DV->Value->List Nat->Prop) (kk:KK):List DV->List DV->List MapEntry->List Nat->Prop
 |[],J,es,G=>J=[]/\es=[]/\G=[]
 |k::ks,J,es,G=>∃ d i e g G1 G2,J=d::i/\es=e::g/\G=G1++G2/\kk.fits k=true/\k_ k=some e.key/\R d e.val G1/\rK R kk ks i g G2
def Ja (es:List MapEntry) (K:Nat):Prop:=(∀ e∈es,e.born<K)/\(es.map (·.born)).Nodup
def A4 (w:World) (T e:Nat) (bs:List UInt8) (v:Value) (F:List Nat):Prop:=
 ∃ b p u,v= .pointer (some ⟨b,0,none⟩)/\w.heap[b]?=some (.cells #[p,u] T (0,0))/\(p= .pointer none\/p= .pointer (some ⟨b,0,none⟩))/\w.ownsRowF 0 e 1 u bs.length (Lib.byteCells bs)/\F=b::gT u
mutual
def f8 (w:World) (M:Nat->Prop):bH->DV->Value->List Nat->Prop
 | .sh,d,v,F=>F=[]/\bf w M d v
 | .sl e ms,d,v,F=>∃ rows xs G,d= .slice rows/\w.ownsRow 0 e ms.length v rows.length xs/\(∀ x∈xs,x.oneCell'=true)/\(∀ r∈rows,r.length=ms.length)/\
   gW (fun r ys G'=>f2 w M ms r ys G') rows xs G/\F=gT v++G
 | .pt ms,d,v,F=>∃ cs b T vs G,d= .ptr cs/\v= .pointer (some ⟨b,0,none⟩)/\w.heap[b]?=some (.cells (List.toArray vs) T (0,0))/\(∀ x∈vs,x.oneCell'=true)/\f2 w M ms cs vs G/\F=b::G
 | .mp kk m,d,v,F=>∃ ks J r es K G,d= .map ks J/\v= .map (some r)/\w.heap[r]?=some (.map (List.toArray es) K)/\Ja es K/\rK (fun d' v' G'=>f8 w M m d' v' G') kk ks J es G/\F=r::G
 | .bld T e,d,v,F=>∃ bs,d= .str bs/\A4 w T e bs v F
def f2 (w:World) (M:Nat->Prop):List bH->List DV->List Value->List Nat->Prop
 |[],J,vs,F=>J=[]/\vs=[]/\F=[]
 |m::ms,J,vs,F=>∃ d i v A N R,J=d::i/\vs=v::A/\F=N++R/\f8 w M m d v N/\f2 w M ms i A R
end
theorem gW.mono {R a:List DV->List Value->List Nat->Prop}:∀ {rows:List (List DV)} {xs:List Value} {G:List Nat},(∀ r ys G',(∀ b∈G',b∈G)->R r ys G'->a r ys G')->gW R rows xs G->gW a rows xs G
 |[],xs,G,_,h=>h
 |r::rs,xs,G,t,h=>by
  obtain⟨ys,zs,G1,G2,h1,rfl,E,h4⟩:=h
  exact⟨ys,zs,G1,G2,h1,rfl,t r ys G1 (fun b hb=>by simp[hb]) E,gW.mono (fun r ys G' hG=>t r ys G' fun b hb=>by simp[hG b hb]) h4⟩
theorem rK.mono {R a:DV->Value->List Nat->Prop} {kk:KK}:∀ {ks J:List DV} {es:List MapEntry} {G:List Nat},(∀ d v G',(∀ b∈G',b∈G)->R d v G'->a d v G')->rK R kk ks J es G->rK a kk ks J es G
 |[],J,es,G,_,h=>h
 |k::ks,J,es,G,t,h=>by
  obtain⟨d,i,e,g,G1,G2,h1,h2,rfl,E,h4,h5,h6⟩:=h
  exact⟨d,i,e,g,G1,G2,h1,h2,rfl,E,h4,t d e.val G1 (fun b hb=>by simp[hb]) h5,rK.mono (fun d v G' hG=>t d v G' fun b hb=>by simp[hG b hb]) h6⟩
theorem vR (hk:∀ b∈gT v,w'.heap[b]?=w.heap[b]?) (h:w.ownsRow 0 e sz v n xs):w'.ownsRow 0 e sz v n xs:=by
 refine⟨h.1, ?_⟩
 rcases h.2 with h|⟨g,N,I,hv,hb,L,z⟩
 ·exact .inl h
 ·exact .inr ⟨g,N,I,hv,hb,by rw[hk g (by simp[gT,hv,vr])];exact L,z⟩
theorem Gf (hk:∀ b∈gT v,w'.heap[b]?=w.heap[b]?) (h:w.ownsRowF 0 e sz v n xs):w'.ownsRowF 0 e sz v n xs:=by
 refine⟨h.1, ?_⟩
 rcases h.2 with h|⟨g,N,I,d,hv,hb,L,z⟩
 ·exact .inl h
 ·exact .inr ⟨g,N,I,d,hv,hb,by rw[hk g (by simp[gT,hv,vr])];exact L,z⟩
theorem A4.ext {T:Nat} {bs:List UInt8} {F:List Nat} (hk:∀ b∈F,w'.heap[b]?=w.heap[b]?) (h:A4 w T e bs v F):A4 w' T e bs v F:=by
 obtain⟨b,p,u,h1,h2,E,h4,rfl⟩:=h
 exact⟨b,p,u,h1,by rw[hk b oS];exact h2,E,Gf (fun b hb=>hk b (by simp[hb])) h4,rfl⟩
mutual
theorem f8.ext {w w':World} {M M':Nat->Prop} (h:mG w M w' M'):∀ (m:bH) (d:DV) (v:Value) (F:List Nat),(∀ b∈F,w'.heap[b]?=w.heap[b]?)->f8 w M m d v F->f8 w' M' m d v F
 | .sh,d,v,F,hk,D=>by
  unfold f8 at *
  exact⟨D.1,D.2.ext h⟩
 | .sl e ms,d,v,F,hk,D=>by
  unfold f8 at *
  obtain⟨rows,xs,G,hd,ho,h1,h2,E,rfl⟩:=D
  exact⟨rows,xs,G,hd,vR (fun b hb=>hk b (by simp[hb])) ho,h1,h2,gW.mono (fun r ys G' hG D=>f2.ext h ms r ys G' (fun b hb=>hk b (by simp[hG b hb])) D) E,rfl⟩
 | .pt ms,d,v,F,hk,D=>by
  unfold f8 at *
  obtain⟨cs,b,T,vs,G,hd,hv,hh,h1,h2,rfl⟩:=D
  exact⟨cs,b,T,vs,G,hd,hv,by rw[hk b oS];exact hh,h1,f2.ext h ms cs vs G (fun b hb=>hk b (by simp[hb])) h2,rfl⟩
 | .mp kk m,d,v,F,hk,D=>by
  unfold f8 at *
  obtain⟨ks,J,r,es,K,G,hd,hv,hh,hB,h1,rfl⟩:=D
  exact⟨ks,J,r,es,K,G,hd,hv,by rw[hk r oS];exact hh,hB,rK.mono (fun d v G' hG D=>f8.ext h m d v G' (fun b hb=>hk b (by simp[hG b hb])) D) h1,rfl⟩
 | .bld T e,d,v,F,hk,D=>by
  unfold f8 at *
  obtain⟨bs,h1,h2⟩:=D
  exact⟨bs,h1,h2.ext hk⟩
theorem f2.ext {w w':World} {M M':Nat->Prop} (h:mG w M w' M'):∀ (ms:List bH) (J:List DV) (vs:List Value) (F:List Nat),(∀ b∈F,w'.heap[b]?=w.heap[b]?)->f2 w M ms J vs F->f2 w' M' ms J vs F
 |[],J,vs,F,_,D=>by unfold f2 at *;exact D
 |m::ms,J,vs,F,hk,D=>by
  unfold f2 at *
  obtain⟨d,i,v,A,N,R,h1,h2,rfl,E,h4⟩:=D
  exact⟨d,i,v,A,N,R,h1,h2,rfl,f8.ext h m d v N (fun b hb=>hk b (by simp[hb])) E,f2.ext h ms i A R (fun b hb=>hk b (by simp[hb])) h4⟩
end
