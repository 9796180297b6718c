/-
  My text.
-/
import Derived.KernelRfl
import Derived.Calls
import Derived.Orders
import Derived.Below
import Derived.WalkKit
import Derived.Lib.FrozenHead
namespace Go.Proofs.YteaolfcegaidpaaGreatDoor
theorem oK {p:Prop} (h:p:=by kernel_rfl):p:=h
theorem oM {p:Prop} (h:p:=by omega):p:=h
theorem oS {p:Prop} (h:p:=by simp):p:=h
theorem oD {p:Prop} (h:p:=by decide):p:=h
theorem oT {p:Prop} (h:p:=by (simp;omega)):p:=h
theorem oA {p:Prop} (h:p:=by assumption):p:=h
theorem oL {p:Prop} (h:p:=by (simp only[List.length_cons,List.length_nil];omega)):p:=h
theorem SN:type_of% @Option.some.injEq:=@Option.some.injEq
theorem SQ:type_of% @Option.bind_some:=@Option.bind_some
theorem SR:type_of% @Bool.and_eq_true:=@Bool.and_eq_true
theorem SS:type_of% @Prod.mk.injEq:=@Prod.mk.injEq
theorem ST:type_of% @List.mem_of_getElem?:=@List.mem_of_getElem?
theorem SU:type_of% @decide_eq_true_eq:=@decide_eq_true_eq
theorem SW:type_of% @List.length_append:=@List.length_append
theorem SY:type_of% @List.getElem?_eq_some_iff:=@List.getElem?_eq_some_iff
theorem SZ:type_of% @cond_true:=@cond_true
theorem S0:type_of% @Nat.le_refl:=@Nat.le_refl
theorem S1:type_of% @beq_iff_eq:=@beq_iff_eq
theorem S2:type_of% @cond_false:=@cond_false
theorem S3:type_of% @List.getElem?_eq_getElem:=@List.getElem?_eq_getElem
theorem S4:type_of% @List.append_assoc:=@List.append_assoc
theorem S5:type_of% @List.map_cons:=@List.map_cons
theorem S6:type_of% @List.length_cons:=@List.length_cons
theorem S7:type_of% @Bool.not_true:=@Bool.not_true
theorem S8:type_of% @Bool.true_and:=@Bool.true_and
theorem S9:type_of% @List.mem_cons:=@List.mem_cons
theorem S_:type_of% @List.cons_append:=@List.cons_append
theorem Ta:type_of% @List.mem_append:=@List.mem_append
theorem Tb:type_of% @List.nil_append:=@List.nil_append
theorem Tc:type_of% @List.length_take:=@List.length_take
theorem Td:type_of% @List.mem_singleton:=@List.mem_singleton
theorem Te:type_of% @List.length_eq_zero_iff:=@List.length_eq_zero_iff
theorem Tf:type_of% @List.take_append_drop:=@List.take_append_drop
theorem Tg:type_of% @List.append_nil:=@List.append_nil
theorem Th:type_of% @Nat.lt_or_ge:=@Nat.lt_or_ge
theorem Ti:type_of% @Bool.eq_iff_iff:=@Bool.eq_iff_iff
theorem Tj:type_of% @Bool.false_eq_true:=@Bool.false_eq_true
theorem Tk:type_of% @List.getElem?_map:=@List.getElem?_map
theorem Tl:type_of% @List.mem_cons_self:=@List.mem_cons_self
theorem Tm:type_of% @List.mem_of_mem_take:=@List.mem_of_mem_take
theorem Tn:type_of% @Bool.or_eq_true:=@Bool.or_eq_true
theorem To:type_of% @Nat.zero_le:=@Nat.zero_le
theorem Tp:type_of% @List.all_eq_true:=@List.all_eq_true
theorem Tq:type_of% @List.length_singleton:=@List.length_singleton
theorem Tr:type_of% @List.take_of_length_le:=@List.take_of_length_le
theorem Ts:type_of% @decide_eq_false_iff_not:=@decide_eq_false_iff_not
theorem Tt:type_of% @Nat.lt_of_lt_of_le:=@Nat.lt_of_lt_of_le
theorem Tu:type_of% @List.mem_map:=@List.mem_map
theorem Tv:type_of% @if_false:=@if_false
theorem Tw:type_of% @Bool.not_false:=@Bool.not_false
theorem Tx:type_of% @Bool.false_or:=@Bool.false_or
theorem Ty:type_of% @Array.getElem?_eq_some_iff:=@Array.getElem?_eq_some_iff
theorem Tz:type_of% @List.mem_cons_of_mem:=@List.mem_cons_of_mem
theorem TA:type_of% @List.cons.injEq:=@List.cons.injEq
theorem TB:type_of% @List.flatten_cons:=@List.flatten_cons
theorem TC:type_of% @List.nodup_append:=@List.nodup_append
theorem TD:type_of% @Array.getD_eq_getD_getElem?:=@Array.getD_eq_getD_getElem?
theorem TE:type_of% @List.mem_of_mem_drop:=@List.mem_of_mem_drop
theorem TF:type_of% @Bool.or_eq_false_iff:=@Bool.or_eq_false_iff
theorem TG:type_of% @decide_eq_true:=@decide_eq_true
theorem TH:type_of% @List.length_drop:=@List.length_drop
theorem TI:type_of% @Option.getD_some:=@Option.getD_some
theorem TJ:type_of% @Nat.zero_add:=@Nat.zero_add
theorem TK:type_of% @List.getElem?_append_right:=@List.getElem?_append_right
theorem TL:type_of% @Option.map_some:=@Option.map_some
theorem TM:type_of% @Bool.eq_false_iff:=@Bool.eq_false_iff
theorem TN:type_of% @List.length_nil:=@List.length_nil
theorem TO:type_of% @List.length_map:=@List.length_map
theorem TP:type_of% @Array.toList_inj:=@Array.toList_inj
theorem TQ:type_of% @List.not_mem_nil:=@List.not_mem_nil
theorem TR:type_of% @Bool.not_eq_true':=@Bool.not_eq_true'
theorem TS:type_of% @List.getElem?_cons_succ:=@List.getElem?_cons_succ
theorem TT:type_of% @Nat.le_trans:=@Nat.le_trans
theorem TU:type_of% @Bool.and_eq_false_iff:=@Bool.and_eq_false_iff
theorem TV:type_of% @List.take_length:=@List.take_length
theorem TW:type_of% @decide_eq_false:=@decide_eq_false
theorem TX:type_of% @Option.isSome_iff_exists:=@Option.isSome_iff_exists
theorem TY:type_of% @Bool.false_and:=@Bool.false_and
theorem TZ:type_of% @List.getElem?_append_left:=@List.getElem?_append_left
theorem T0:type_of% @List.getElem?_drop:=@List.getElem?_drop
theorem T1:type_of% @Int.le_refl:=@Int.le_refl
theorem T2:type_of% @Nat.add_mul:=@Nat.add_mul
theorem T3:type_of% @List.map_congr_left:=@List.map_congr_left
theorem T4:type_of% @List.getElem?_eq_none_iff:=@List.getElem?_eq_none_iff
theorem T5:type_of% @List.getElem?_take:=@List.getElem?_take
theorem T6:type_of% @if_true:=@if_true
theorem T7:type_of% @List.mem_range:=@List.mem_range
theorem T8:type_of% @Option.getD_none:=@Option.getD_none
theorem T9:type_of% @List.length_replicate:=@List.length_replicate
theorem T_:type_of% @Int.toNat_natCast:=@Int.toNat_natCast
theorem Ua:type_of% @List.drop_drop:=@List.drop_drop
theorem Ub:type_of% @if_pos:=@if_pos
theorem Uc:type_of% @Bool.true_eq_false:=@Bool.true_eq_false
theorem Ud:type_of% @List.pairwise_cons:=@List.pairwise_cons
theorem Ue:type_of% @decide_true:=@decide_true
theorem Uf:type_of% @List.drop_eq_getElem_cons:=@List.drop_eq_getElem_cons
theorem Ug:type_of% @Array.getElem?_eq_getElem:=@Array.getElem?_eq_getElem
theorem Uh:type_of% @List.mem_append_left:=@List.mem_append_left
theorem Ui:type_of% @List.map_nil:=@List.map_nil
theorem Uj:type_of% @List.drop_of_length_le:=@List.drop_of_length_le
theorem Uk:type_of% @Bool.not_eq_true:=@Bool.not_eq_true
theorem Ul:type_of% @if_neg:=@if_neg
theorem Um:type_of% @decide_false:=@decide_false
theorem Un:type_of% @Nat.add_sub_cancel:=@Nat.add_sub_cancel
theorem Uo:type_of% @List.drop_length:=@List.drop_length
theorem Up:type_of% @Nat.lt_or_eq_of_le:=@Nat.lt_or_eq_of_le
theorem Uq:type_of% @List.getElem?_cons_zero:=@List.getElem?_cons_zero
theorem Ur:type_of% @List.pairwise_singleton:=@List.pairwise_singleton
theorem Us:type_of% @List.Sublist.refl:=@List.Sublist.refl
theorem Ut:type_of% @Array.all_eq_true_iff_forall_mem:=@Array.all_eq_true_iff_forall_mem
theorem Uu:type_of% @List.any_eq_true:=@List.any_eq_true
theorem Uv:type_of% @Array.getElem?_toList:=@Array.getElem?_toList
theorem Uw:type_of% @Nat.mul_le_mul_right:=@Nat.mul_le_mul_right
theorem Ux:type_of% @List.contains_eq_mem:=@List.contains_eq_mem
theorem Uy:type_of% @List.all_cons:=@List.all_cons
theorem Uz:type_of% @List.take_succ_cons:=@List.take_succ_cons
theorem UA:type_of% @List.length_pos_iff:=@List.length_pos_iff
theorem UB:type_of% @List.drop_eq_nil_of_le:=@List.drop_eq_nil_of_le
theorem UC:type_of% @Nat.add_zero:=@Nat.add_zero
theorem UD:type_of% @List.map_map:=@List.map_map
theorem UE:type_of% @List.mem_filter:=@List.mem_filter
theorem UF:type_of% @List.contains_iff_mem:=@List.contains_iff_mem
theorem UG:type_of% @List.mem_append_right:=@List.mem_append_right
theorem UH:type_of% @List.sum_cons:=@List.sum_cons
theorem UI:type_of% @List.pairwise_append:=@List.pairwise_append
theorem UJ:type_of% @List.getElem?_of_mem:=@List.getElem?_of_mem
theorem UK:type_of% @Int.mul_add:=@Int.mul_add
theorem UL:type_of% @Bool.and_false:=@Bool.and_false
theorem UM:type_of% @List.flatMap_append:=@List.flatMap_append
theorem UN:type_of% @Bool.or_false:=@Bool.or_false
theorem UO:type_of% @List.zip_cons_cons:=@List.zip_cons_cons
theorem UP:type_of% @Option.map_none:=@Option.map_none
theorem UQ:type_of% @List.nodup_cons:=@List.nodup_cons
theorem UR:type_of% @List.map_append:=@List.map_append
theorem US:type_of% @Option.some.inj:=@Option.some.inj
theorem UT:type_of% @Option.some_get:=@Option.some_get
theorem UU:type_of% @List.zipWith_cons_cons:=@List.zipWith_cons_cons
theorem UV:type_of% @List.flatMap_cons:=@List.flatMap_cons
theorem UW:type_of% @List.drop_eq_nil_iff:=@List.drop_eq_nil_iff
theorem UX:type_of% @List.range_eq_range':=@List.range_eq_range'
theorem UY:type_of% @Bool.and_true:=@Bool.and_true
theorem UZ:type_of% @Nat.add_assoc:=@Nat.add_assoc
theorem U0:type_of% @Int.add_assoc:=@Int.add_assoc
theorem U1:type_of% @List.drop_succ_cons:=@List.drop_succ_cons
theorem U2:type_of% @List.Sublist.append:=@List.Sublist.append
theorem U3:type_of% @Array.length_toList:=@Array.length_toList
theorem U4:type_of% @List.flatten_append:=@List.flatten_append
theorem U5:type_of% @List.replicate_succ:=@List.replicate_succ
theorem U6:type_of% @List.filter_eq_self:=@List.filter_eq_self
theorem U7:type_of% @beq_eq_false_iff_ne:=@beq_eq_false_iff_ne
theorem U8:type_of% @List.takeWhile_cons:=@List.takeWhile_cons
theorem U9:type_of% @Nat.min_eq_left:=@Nat.min_eq_left
theorem U_:type_of% @Int.pow_succ:=@Int.pow_succ
theorem Va:type_of% @Nat.sub_self:=@Nat.sub_self
theorem Vb:type_of% @List.drop_zero:=@List.drop_zero
set_option linter.unusedSimpArgs false
set_option linter.unusedVariables false
open Go.RowKit
inductive DV where
 |int (k:IntKind) (n:Int)
 |bool (b:Bool)
 |str (s:List UInt8)
 |slice (rows:List (List DV))
 |agg (cs:List DV)
 |tup (cs:List DV)
 |ptr (cs:List DV)
 |fn (f:FuncId) (caps:List DV)
 |raw (v:Value)
 |map (ks vs:List DV)
 |err
 |any
variable {M M':Nat->Prop} {e n sz:Nat} {v:Value} {w w':World} {xs:List Value}
def dq:DV->Option Value
 | .int k n=>some (.int k n)
 | .str s=>some (.string ⟨s.toArray⟩)
 | .bool b=>some (.bool b)
 |_=>none
def Gd (es:List MapEntry) (C:Nat):Prop:=(∀ e∈es,e.born<C)/\(es.map (·.born)).Nodup
def pL:List DV->List DV->List MapEntry->Prop
 |[],[],[]=>True
 |k::ks,v::vs,e::es=>dq k=some e.key/\dq v=some e.val/\pL ks vs es
 |_,_,_=>False
mutual
def ba (w:World) (M:Nat->Prop):DV->Value->Prop
 | .int k n,v=>v= .int k n
 | .bool b,v=>v= .bool b
 | .str s,v=>v= .string ⟨s.toArray⟩
 | .slice rows,v=>∃ a D,v= .slice a rows.length D/\rows.length<=D/\(a=none->D=0)/\
   (rows=[]\/∃ b o sz,a=some ⟨b,o,none⟩/\¬ M b/\b<w.heap.size/\bi w M rows b o sz)
 | .agg cs,v=>∃ vs:List Value,v= .agg vs.toArray/\(∀ x∈vs,x.oneCell'=true)/\aN w M cs vs
 | .tup cs,v=>∃ vs:List Value,v= .tuple vs.toArray/\aN w M cs vs
 | .ptr cs,v=>∃ b o,v= .pointer (some ⟨b,o,none⟩)/\¬ M b/\b<w.heap.size/\b4 w M cs b o
 | .fn f caps,v=>∃ vs:List Value,v= .func (.func f) #[] vs.toArray/\aN w M caps vs
 | .raw u,v=>v=u
 | .map ks vs,v=>∃ r,v= .map r/\((r=none/\ks=[]/\vs=[])\/∃ b es C,r=some b/\¬ M b/\b<w.heap.size/\w.heap[b]?=some (.map (List.toArray es) C)/\Gd es C/\pL ks vs es)
 | .err,v=>∃ t u,v= .iface t u
 | .any,_=>True
def aN (w:World) (M:Nat->Prop):List DV->List Value->Prop
 |[],vs=>vs=[]
 |c::cs,vs=>∃ u us,vs=u::us/\ba w M c u/\aN w M cs us
def b4 (w:World) (M:Nat->Prop):List DV->Nat->Nat->Prop
 |[],_,_=>True
 |c::cs,b,o=>(∃ v,w.cell? ⟨b,o,none⟩=some v/\v.oneCell'=true/\ba w M c v)/\b4 w M cs b (o+1)
def bi (w:World) (M:Nat->Prop):List (List DV)->Nat->Nat->Nat->Prop
 |[],_,_,_=>True
 |r::rs,b,o,sz=>r.length=sz/\b4 w M r b o/\bi w M rs b (o+sz) sz
end
structure lA (w:World) (M:Nat->Prop) (w':World) (M':Nat->Prop):Prop where
 size:w.heap.size<=w'.heap.size
 keep:∀ b,b<w.heap.size->¬ M b->w'.heap[b]?=w.heap[b]?/\¬ M' b
theorem lA.cell (h:lA w M w' M') {b o:Nat} (hb:b<w.heap.size) (Z:¬ M b):
  w'.cell? ⟨b,o,none⟩=w.cell? ⟨b,o,none⟩:=by
 unfold World.cell?;simp only;rw[(h.keep b hb Z).1]
theorem lA.shrink (h:∀ b,M' b->M b):lA w M w M':=
 ⟨S0 _,fun b _ Z=>⟨rfl,fun h'=>Z (h b h')⟩⟩
mutual
theorem ba.ext {w w':World} {M M':Nat->Prop} (h:lA w M w' M'):∀ (d:DV) (v:Value),ba w M d v->ba w' M' d v
 | .int _ _,_,hr=>by unfold ba at *;exact hr
 | .bool _,_,hr=>by unfold ba at *;exact hr
 | .str _,_,hr=>by unfold ba at *;exact hr
 | .slice rows,v,hr=>by
  unfold ba at *
  obtain⟨a,D,hv,hl,hn,hc⟩:=hr
  refine⟨a,D,hv,hl,hn, ?_⟩
  rcases hc with hc|⟨b,o,sz,ha,Z,hb,K⟩
  ·exact .inl hc
  ·exact .inr ⟨b,o,sz,ha,(h.keep b hb Z).2,Tt hb h.size,bi.ext h rows b o sz hb Z K⟩
 | .agg cs,v,hr=>by
  unfold ba at *
  obtain⟨vs,hv,h1,hl⟩:=hr
  exact⟨vs,hv,h1,aN.ext h cs vs hl⟩
 | .tup cs,v,hr=>by
  unfold ba at *
  obtain⟨vs,hv,hl⟩:=hr
  exact⟨vs,hv,aN.ext h cs vs hl⟩
 | .ptr cs,v,hr=>by
  unfold ba at *
  obtain⟨b,o,hv,Z,hb,hc⟩:=hr
  exact⟨b,o,hv,(h.keep b hb Z).2,Tt hb h.size,b4.ext h cs b o hb Z hc⟩
 | .fn _ caps,v,hr=>by
  unfold ba at *
  obtain⟨vs,hv,hl⟩:=hr
  exact⟨vs,hv,aN.ext h caps vs hl⟩
 | .raw _,_,hr=>by unfold ba at *;exact hr
 | .map _ _,_,hr=>by
  unfold ba at *
  obtain⟨r,hv,hc⟩:=hr
  refine⟨r,hv, ?_⟩
  rcases hc with hc|⟨b,es,C,hb,Z,h9,hh,h1,h2⟩
  ·exact .inl hc
  ·exact .inr ⟨b,es,C,hb,(h.keep b h9 Z).2,Tt h9 h.size,by rw[(h.keep b h9 Z).1];exact hh,h1,h2⟩
 | .err,_,hr=>by unfold ba at *;exact hr
 | .any,_,_=>by unfold ba;trivial
theorem aN.ext {w w':World} {M M':Nat->Prop} (h:lA w M w' M'):∀ (cs:List DV) (vs:List Value),aN w M cs vs->aN w' M' cs vs
 |[],_,hr=>by unfold aN at *;exact hr
 |c::cs,vs,hr=>by
  unfold aN at *
  obtain⟨u,us,hv,h1,h2⟩:=hr
  exact⟨u,us,hv,ba.ext h c u h1,aN.ext h cs us h2⟩
theorem b4.ext {w w':World} {M M':Nat->Prop} (h:lA w M w' M'):∀ (cs:List DV) (b o:Nat),b<w.heap.size->¬ M b->b4 w M cs b o->b4 w' M' cs b o
 |[],_,_,_,_,_=>by unfold b4;trivial
 |c::cs,b,o,hb,Z,hr=>by
  unfold b4 at *
  obtain⟨⟨v,hv,h1,hc⟩,g⟩:=hr
  exact⟨⟨v,by rw[h.cell hb Z];exact hv,h1,ba.ext h c v hc⟩,b4.ext h cs b (o+1) hb Z g⟩
theorem bi.ext {w w':World} {M M':Nat->Prop} (h:lA w M w' M'):∀ (rs:List (List DV)) (b o sz:Nat),b<w.heap.size->¬ M b->bi w M rs b o sz->bi w' M' rs b o sz
 |[],_,_,_,_,_,_=>by unfold bi;trivial
 |r::rs,b,o,sz,hb,Z,hr=>by
  unfold bi at *
  obtain⟨h1,h2,E⟩:=hr
  exact⟨h1,b4.ext h r b o hb Z h2,bi.ext h rs b (o+sz) sz hb Z E⟩
end
def mh (P:Program) (f:FuncId):Bool:=
 match P.funcs[f]? with
 |some fn=>fn.body.isSome&&fn.name != "runtime.NumGoroutine"
 |none=>false
inductive KK where
 |str
 |int (k:IntKind)
 |bool
 deriving DecidableEq
def KK.fits:KK->DV->Bool
 | .str,.str _=>true
 | .int k,.int k' _=>decide (k=k')
 | .bool,.bool _=>true
 |_,_=>false
inductive cO where
 |sh
 |sl (e:Nat) (ms:List cO)
 |pt (ms:List cO)
 |mp (kk:KK) (m:cO)
 |bld (T e:Nat)
def yj:Value->Option Nat
 | .pointer (some a)=>some a.block
 | .slice (some a) _ _=>some a.block
 | .map (some r)=>some r
 |_=>none
def hP (v:Value):List Nat:=(yj v).toList
def fz (R:List DV->List Value->List Nat->Prop):List (List DV)->List Value->List Nat->Prop
 |[],xs,G=>xs=[]/\G=[]
 |r::rs,xs,G=>∃ ys zs G1 G2,xs=ys++zs/\G=G1++G2/\R r ys G1/\fz R rs zs G2
def rW (R:DV->Value->List Nat->Prop) (kk:KK):List DV->List DV->List MapEntry->List Nat->Prop
 |[],O,es,G=>O=[]/\es=[]/\G=[]
 |k::ks,O,es,G=>∃ d i e n G1 G2,O=d::i/\es=e::n/\G=G1++G2/\kk.fits k=true/\dq k=some e.key/\R d e.val G1/\rW R kk ks i n G2
def BJ (w:World) (T e:Nat) (bs:List UInt8) (v:Value) (F:List Nat):Prop:=
 ∃ b p u,v= .pointer (some ⟨b,0,none⟩)/\w.heap[b]?=some (.cells #[p,u] T (0,0))/\(p= .pointer none\/p= .pointer (some ⟨b,0,none⟩))/\w.ownsRowF 0 e 1 u bs.length (Lib.byteCells bs)/\F=b::hP u
mutual
def eR (w:World) (M:Nat->Prop):cO->DV->Value->List Nat->Prop
 | .sh,d,v,F=>F=[]/\ba w M d v
 | .sl e ms,d,v,F=>∃ rows xs G,d= .slice rows/\w.ownsRow 0 e ms.length v rows.length xs/\(∀ x∈xs,x.oneCell'=true)/\(∀ r∈rows,r.length=ms.length)/\
   fz (fun r ys G'=>ex w M ms r ys G') rows xs G/\F=hP v++G
 | .pt ms,d,v,F=>∃ cs b T vs G,d= .ptr cs/\v= .pointer (some ⟨b,0,none⟩)/\w.heap[b]?=some (.cells (List.toArray vs) T (0,0))/\(∀ x∈vs,x.oneCell'=true)/\ex w M ms cs vs G/\F=b::G
 | .mp kk m,d,v,F=>∃ ks O r es C G,d= .map ks O/\v= .map (some r)/\w.heap[r]?=some (.map (List.toArray es) C)/\Gd es C/\rW (fun d' v' G'=>eR w M m d' v' G') kk ks O es G/\F=r::G
 | .bld T e,d,v,F=>∃ bs,d= .str bs/\BJ w T e bs v F
def ex (w:World) (M:Nat->Prop):List cO->List DV->List Value->List Nat->Prop
 |[],O,vs,F=>O=[]/\vs=[]/\F=[]
 |m::ms,O,vs,F=>∃ d i v A z I,O=d::i/\vs=v::A/\F=z++I/\eR w M m d v z/\ex w M ms i A I
end
theorem fz.mono {R a:List DV->List Value->List Nat->Prop}:∀ {rows:List (List DV)} {xs:List Value} {G:List Nat},(∀ r ys G',(∀ b∈G',b∈G)->R r ys G'->a r ys G')->fz R rows xs G->fz a rows xs G
 |[],xs,G,_,h=>h
 |r::rs,xs,G,z,h=>by
  obtain⟨ys,zs,G1,G2,h1,rfl,E,h4⟩:=h
  exact⟨ys,zs,G1,G2,h1,rfl,z r ys G1 (fun b hb=>by simp[hb]) E,fz.mono (fun r ys G' t=>z r ys G' fun b hb=>by simp[t b hb]) h4⟩
theorem rW.mono {R a:DV->Value->List Nat->Prop} {kk:KK}:∀ {ks O:List DV} {es:List MapEntry} {G:List Nat},(∀ d v G',(∀ b∈G',b∈G)->R d v G'->a d v G')->rW R kk ks O es G->rW a kk ks O es G
 |[],O,es,G,_,h=>h
 |k::ks,O,es,G,z,h=>by
  obtain⟨d,i,e,n,G1,G2,h1,h2,rfl,E,h4,h5,h6⟩:=h
  exact⟨d,i,e,n,G1,G2,h1,h2,rfl,E,h4,z d e.val G1 (fun b hb=>by simp[hb]) h5,rW.mono (fun d v G' t=>z d v G' fun b hb=>by simp[t b hb]) h6⟩
theorem wM (hk:∀ b∈hP v,w'.heap[b]?=w.heap[b]?) (h:w.ownsRow 0 e sz v n xs):w'.ownsRow 0 e sz v n xs:=by
 refine⟨h.1, ?_⟩
 rcases h.2 with h|⟨g,D,B,hv,hb,hg,T⟩
 ·exact .inl h
 ·exact .inr ⟨g,D,B,hv,hb,by rw[hk g (by simp[hP,hv,yj])];exact hg,T⟩
theorem Ge (hk:∀ b∈hP v,w'.heap[b]?=w.heap[b]?) (h:w.ownsRowF 0 e sz v n xs):w'.ownsRowF 0 e sz v n xs:=by
 refine⟨h.1, ?_⟩
 rcases h.2 with h|⟨g,D,B,d,hv,hb,hg,T⟩
 ·exact .inl h
 ·exact .inr ⟨g,D,B,d,hv,hb,by rw[hk g (by simp[hP,hv,yj])];exact hg,T⟩
theorem BJ.ext {T:Nat} {bs:List UInt8} {F:List Nat} (hk:∀ b∈F,w'.heap[b]?=w.heap[b]?) (h:BJ w T e bs v F):BJ w' T e bs v F:=by
 obtain⟨b,p,u,h1,h2,E,h4,rfl⟩:=h
 exact⟨b,p,u,h1,by rw[hk b oS];exact h2,E,Ge (fun b hb=>hk b (by simp[hb])) h4,rfl⟩
mutual
theorem eR.ext {w w':World} {M M':Nat->Prop} (h:lA w M w' M'):∀ (m:cO) (d:DV) (v:Value) (F:List Nat),(∀ b∈F,w'.heap[b]?=w.heap[b]?)->eR w M m d v F->eR w' M' m d v F
 | .sh,d,v,F,hk,hr=>by
  unfold eR at *
  exact⟨hr.1,hr.2.ext h⟩
 | .sl e ms,d,v,F,hk,hr=>by
  unfold eR at *
  obtain⟨rows,xs,G,hd,ho,h1,h2,E,rfl⟩:=hr
  exact⟨rows,xs,G,hd,wM (fun b hb=>hk b (by simp[hb])) ho,h1,h2,fz.mono (fun r ys G' t hr=>ex.ext h ms r ys G' (fun b hb=>hk b (by simp[t b hb])) hr) E,rfl⟩
 | .pt ms,d,v,F,hk,hr=>by
  unfold eR at *
  obtain⟨cs,b,T,vs,G,hd,hv,hh,h1,h2,rfl⟩:=hr
  exact⟨cs,b,T,vs,G,hd,hv,by rw[hk b oS];exact hh,h1,ex.ext h ms cs vs G (fun b hb=>hk b (by simp[hb])) h2,rfl⟩
 | .mp kk m,d,v,F,hk,hr=>by
  unfold eR at *
  obtain⟨ks,O,r,es,C,G,hd,hv,hh,hB,h1,rfl⟩:=hr
  exact⟨ks,O,r,es,C,G,hd,hv,by rw[hk r oS];exact hh,hB,rW.mono (fun d v G' t hr=>eR.ext h m d v G' (fun b hb=>hk b (by simp[t b hb])) hr) h1,rfl⟩
 | .bld T e,d,v,F,hk,hr=>by
  unfold eR at *
  obtain⟨bs,h1,h2⟩:=hr
  exact⟨bs,h1,h2.ext hk⟩
theorem ex.ext {w w':World} {M M':Nat->Prop} (h:lA w M w' M'):∀ (ms:List cO) (O:List DV) (vs:List Value) (F:List Nat),(∀ b∈F,w'.heap[b]?=w.heap[b]?)->ex w M ms O vs F->ex w' M' ms O vs F
 |[],O,vs,F,_,hr=>by unfold ex at *;exact hr
 |m::ms,O,vs,F,hk,hr=>by
  unfold ex at *
  obtain⟨d,i,v,A,z,I,h1,h2,rfl,E,h4⟩:=hr
  exact⟨d,i,v,A,z,I,h1,h2,rfl,eR.ext h m d v z (fun b hb=>hk b (by simp[hb])) E,ex.ext h ms i A I (fun b hb=>hk b (by simp[hb])) h4⟩
end
