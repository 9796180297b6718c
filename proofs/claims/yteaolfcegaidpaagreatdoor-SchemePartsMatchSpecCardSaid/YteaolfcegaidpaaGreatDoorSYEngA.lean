/-
  My text.
-/
import Derived.KernelRfl
import Derived.Calls
import Derived.Orders
import Derived.Below
import Derived.WalkKit
import Derived.Lib.FrozenHead
namespace Go.Proofs.YteaolfcegaidpaaGreatDoor
theorem oK {p:Prop} (h:p:=by kernel_rfl):p:=h
theorem oM {p:Prop} (h:p:=by omega):p:=h
theorem oS {p:Prop} (h:p:=by simp):p:=h
theorem oD {p:Prop} (h:p:=by decide):p:=h
theorem oT {p:Prop} (h:p:=by (simp;omega)):p:=h
theorem oA {p:Prop} (h:p:=by assumption):p:=h
theorem oL {p:Prop} (h:p:=by (simp only[List.length_cons,List.length_nil];omega)):p:=h
theorem Oy:type_of% @Option.some.injEq:=@Option.some.injEq
theorem Oz:type_of% @Bool.and_eq_true:=@Bool.and_eq_true
theorem OA:type_of% @Option.bind_some:=@Option.bind_some
theorem OB:type_of% @Prod.mk.injEq:=@Prod.mk.injEq
theorem OC:type_of% @decide_eq_true_eq:=@decide_eq_true_eq
theorem OD:type_of% @List.length_append:=@List.length_append
theorem OE:type_of% @List.mem_of_getElem?:=@List.mem_of_getElem?
theorem OG:type_of% @List.getElem?_eq_some_iff:=@List.getElem?_eq_some_iff
theorem OH:type_of% @Nat.le_refl:=@Nat.le_refl
theorem OI:type_of% @beq_iff_eq:=@beq_iff_eq
theorem OJ:type_of% @List.getElem?_eq_getElem:=@List.getElem?_eq_getElem
theorem OK:type_of% @List.append_assoc:=@List.append_assoc
theorem OL:type_of% @cond_true:=@cond_true
theorem OM:type_of% @List.cons_append:=@List.cons_append
theorem ON:type_of% @List.mem_cons:=@List.mem_cons
theorem OO:type_of% @cond_false:=@cond_false
theorem OP:type_of% @List.mem_singleton:=@List.mem_singleton
theorem OQ:type_of% @List.map_cons:=@List.map_cons
theorem OR:type_of% @List.nil_append:=@List.nil_append
theorem OS:type_of% @Bool.not_true:=@Bool.not_true
theorem OT:type_of% @List.length_take:=@List.length_take
theorem OU:type_of% @List.take_append_drop:=@List.take_append_drop
theorem OV:type_of% @List.mem_append:=@List.mem_append
theorem OW:type_of% @List.length_cons:=@List.length_cons
theorem OX:type_of% @List.length_eq_zero_iff:=@List.length_eq_zero_iff
theorem OY:type_of% @List.append_nil:=@List.append_nil
theorem OZ:type_of% @Bool.true_and:=@Bool.true_and
theorem O0:type_of% @List.mem_of_mem_take:=@List.mem_of_mem_take
theorem O1:type_of% @Bool.eq_iff_iff:=@Bool.eq_iff_iff
theorem O2:type_of% @Nat.lt_or_ge:=@Nat.lt_or_ge
theorem O3:type_of% @Bool.or_eq_true:=@Bool.or_eq_true
theorem O4:type_of% @Nat.lt_of_lt_of_le:=@Nat.lt_of_lt_of_le
theorem O5:type_of% @Bool.false_eq_true:=@Bool.false_eq_true
theorem O6:type_of% @List.getElem?_map:=@List.getElem?_map
theorem O7:type_of% @List.cons.injEq:=@List.cons.injEq
theorem O8:type_of% @List.take_of_length_le:=@List.take_of_length_le
theorem O9:type_of% @List.mem_cons_self:=@List.mem_cons_self
theorem O_:type_of% @List.flatten_cons:=@List.flatten_cons
theorem Pa:type_of% @List.all_eq_true:=@List.all_eq_true
theorem Pb:type_of% @decide_eq_false_iff_not:=@decide_eq_false_iff_not
theorem Pc:type_of% @List.nodup_append:=@List.nodup_append
theorem Pd:type_of% @List.mem_map:=@List.mem_map
theorem Pe:type_of% @List.getElem?_append_right:=@List.getElem?_append_right
theorem Pf:type_of% @Option.map_some:=@Option.map_some
theorem Pg:type_of% @List.mem_of_mem_drop:=@List.mem_of_mem_drop
theorem Ph:type_of% @List.length_singleton:=@List.length_singleton
theorem Pi:type_of% @Nat.zero_le:=@Nat.zero_le
theorem Pj:type_of% @Bool.false_or:=@Bool.false_or
theorem Pk:type_of% @List.mem_cons_of_mem:=@List.mem_cons_of_mem
theorem Pl:type_of% @Option.getD_some:=@Option.getD_some
theorem Pm:type_of% @Array.toList_inj:=@Array.toList_inj
theorem Pn:type_of% @List.getElem?_cons_succ:=@List.getElem?_cons_succ
theorem Po:type_of% @Bool.not_false:=@Bool.not_false
theorem Pp:type_of% @if_false:=@if_false
theorem Pq:type_of% @List.length_drop:=@List.length_drop
theorem Pr:type_of% @List.length_nil:=@List.length_nil
theorem Ps:type_of% @Nat.zero_add:=@Nat.zero_add
theorem Pu:type_of% @Option.isSome_iff_exists:=@Option.isSome_iff_exists
theorem Pv:type_of% @List.not_mem_nil:=@List.not_mem_nil
theorem Pw:type_of% @Array.getElem?_eq_some_iff:=@Array.getElem?_eq_some_iff
theorem Px:type_of% @List.length_map:=@List.length_map
theorem Py:type_of% @List.getElem?_append_left:=@List.getElem?_append_left
theorem Pz:type_of% @Bool.not_eq_true':=@Bool.not_eq_true'
theorem PA:type_of% @Nat.le_trans:=@Nat.le_trans
theorem PB:type_of% @Array.getD_eq_getD_getElem?:=@Array.getD_eq_getD_getElem?
theorem PC:type_of% @Bool.and_eq_false_iff:=@Bool.and_eq_false_iff
theorem PD:type_of% @Nat.add_mul:=@Nat.add_mul
theorem PE:type_of% @List.getElem?_eq_none_iff:=@List.getElem?_eq_none_iff
theorem PF:type_of% @List.getElem?_drop:=@List.getElem?_drop
theorem PG:type_of% @decide_eq_true:=@decide_eq_true
theorem PH:type_of% @List.take_length:=@List.take_length
theorem PI:type_of% @List.mem_range:=@List.mem_range
theorem PJ:type_of% @List.getElem?_take:=@List.getElem?_take
theorem PK:type_of% @Int.le_refl:=@Int.le_refl
theorem PL:type_of% @Array.getElem?_eq_getElem:=@Array.getElem?_eq_getElem
theorem PM:type_of% @List.map_congr_left:=@List.map_congr_left
theorem PN:type_of% @Bool.eq_false_iff:=@Bool.eq_false_iff
theorem PO:type_of% @Int.toNat_natCast:=@Int.toNat_natCast
theorem PP:type_of% @Option.getD_none:=@Option.getD_none
theorem PQ:type_of% @Bool.or_eq_false_iff:=@Bool.or_eq_false_iff
theorem PR:type_of% @if_true:=@if_true
theorem PS:type_of% @List.drop_of_length_le:=@List.drop_of_length_le
theorem PT:type_of% @List.drop_eq_getElem_cons:=@List.drop_eq_getElem_cons
theorem PU:type_of% @List.map_nil:=@List.map_nil
theorem PV:type_of% @Bool.true_eq_false:=@Bool.true_eq_false
theorem PW:type_of% @Nat.lt_or_eq_of_le:=@Nat.lt_or_eq_of_le
theorem PX:type_of% @List.drop_drop:=@List.drop_drop
theorem PY:type_of% @List.getElem?_cons_zero:=@List.getElem?_cons_zero
theorem PZ:type_of% @List.pairwise_singleton:=@List.pairwise_singleton
theorem P0:type_of% @Bool.not_eq_true:=@Bool.not_eq_true
theorem P3:type_of% @Array.getElem?_toList:=@Array.getElem?_toList
theorem P4:type_of% @List.pairwise_cons:=@List.pairwise_cons
theorem P5:type_of% @Nat.mul_le_mul_right:=@Nat.mul_le_mul_right
theorem P6:type_of% @List.mem_append_left:=@List.mem_append_left
theorem P7:type_of% @if_neg:=@if_neg
theorem P8:type_of% @List.length_pos_iff:=@List.length_pos_iff
theorem P9:type_of% @List.any_eq_true:=@List.any_eq_true
theorem P_:type_of% @List.drop_eq_nil_of_le:=@List.drop_eq_nil_of_le
theorem Qa:type_of% @if_pos:=@if_pos
theorem Qb:type_of% @Nat.add_zero:=@Nat.add_zero
theorem Qc:type_of% @List.map_map:=@List.map_map
theorem Qd:type_of% @Nat.add_sub_cancel:=@Nat.add_sub_cancel
theorem Qe:type_of% @List.length_replicate:=@List.length_replicate
theorem Qf:type_of% @List.mem_filter:=@List.mem_filter
theorem Qg:type_of% @List.pairwise_append:=@List.pairwise_append
theorem Qh:type_of% @decide_true:=@decide_true
theorem Qi:type_of% @Int.mul_add:=@Int.mul_add
theorem Qj:type_of% @decide_false:=@decide_false
theorem Qk:type_of% @List.take_succ_cons:=@List.take_succ_cons
theorem Ql:type_of% @decide_eq_false:=@decide_eq_false
theorem Qm:type_of% @List.zip_cons_cons:=@List.zip_cons_cons
theorem Qn:type_of% @Option.map_none:=@Option.map_none
theorem Qo:type_of% @List.nodup_cons:=@List.nodup_cons
theorem Qp:type_of% @List.Sublist.refl:=@List.Sublist.refl
theorem Qq:type_of% @Bool.false_and:=@Bool.false_and
theorem Qr:type_of% @List.range_eq_range':=@List.range_eq_range'
theorem Qs:type_of% @List.all_cons:=@List.all_cons
theorem Qt:type_of% @Nat.add_assoc:=@Nat.add_assoc
theorem Qu:type_of% @Int.add_assoc:=@Int.add_assoc
theorem Qv:type_of% @List.Sublist.append:=@List.Sublist.append
theorem Qw:type_of% @Array.length_toList:=@Array.length_toList
theorem Qx:type_of% @List.flatten_append:=@List.flatten_append
theorem Qy:type_of% @List.replicate_succ:=@List.replicate_succ
theorem Qz:type_of% @List.filter_eq_self:=@List.filter_eq_self
theorem QA:type_of% @beq_eq_false_iff_ne:=@beq_eq_false_iff_ne
theorem QB:type_of% @Nat.min_eq_left:=@Nat.min_eq_left
theorem QC:type_of% @List.map_append:=@List.map_append
theorem QD:type_of% @Option.some.inj:=@Option.some.inj
theorem QE:type_of% @Int.pow_succ:=@Int.pow_succ
theorem QG:type_of% @Nat.sub_self:=@Nat.sub_self
set_option linter.unusedSimpArgs false
set_option linter.unusedVariables false
open Go.RowKit
inductive DV where
 |int (k:IntKind) (n:Int)
 |bool (b:Bool)
 |str (s:List UInt8)
 |slice (rows:List (List DV))
 |agg (cs:List DV)
 |tup (cs:List DV)
 |ptr (cs:List DV)
 |fn (f:FuncId) (caps:List DV)
 |raw (v:Value)
 |map (ks vs:List DV)
 |err
 |any
def dD:DV->Option Value
 | .int k n=>some (.int k n)
 | .str s=>some (.string ⟨s.toArray⟩)
 | .bool b=>some (.bool b)
 |_=>none
def DI (es:List MapEntry) (clock:Nat):Prop:=(∀ e∈es,e.born<clock)/\(es.map (·.born)).Nodup
def o9:List DV->List DV->List MapEntry->Prop
 |[],[],[]=>True
 |k::ks,v::vs,e::es=>dD k=some e.key/\dD v=some e.val/\o9 ks vs es
 |_,_,_=>False
mutual
def aQ (w:World) (M:Nat->Prop):DV->Value->Prop
 | .int k n,v=>v= .int k n
 | .bool b,v=>v= .bool b
 | .str s,v=>v= .string ⟨s.toArray⟩
 | .slice rows,v=>∃ a cap,v= .slice a rows.length cap/\rows.length<=cap/\(a=none->cap=0)/\
   (rows=[]\/∃ b o sz,a=some ⟨b,o,none⟩/\¬ M b/\b<w.heap.size/\aS w M rows b o sz)
 | .agg cs,v=>∃ vs:List Value,v= .agg vs.toArray/\(∀ x∈vs,x.oneCell'=true)/\aI w M cs vs
 | .tup cs,v=>∃ vs:List Value,v= .tuple vs.toArray/\aI w M cs vs
 | .ptr cs,v=>∃ b o,v= .pointer (some ⟨b,o,none⟩)/\¬ M b/\b<w.heap.size/\bO w M cs b o
 | .fn f caps,v=>∃ vs:List Value,v= .func (.func f) #[] vs.toArray/\aI w M caps vs
 | .raw u,v=>v=u
 | .map ks vs,v=>∃ r,v= .map r/\((r=none/\ks=[]/\vs=[])\/∃ b es clock,r=some b/\¬ M b/\b<w.heap.size/\w.heap[b]?=some (.map (List.toArray es) clock)/\DI es clock/\o9 ks vs es)
 | .err,v=>∃ t u,v= .iface t u
 | .any,_=>True
def aI (w:World) (M:Nat->Prop):List DV->List Value->Prop
 |[],vs=>vs=[]
 |c::cs,vs=>∃ u us,vs=u::us/\aQ w M c u/\aI w M cs us
def bO (w:World) (M:Nat->Prop):List DV->Nat->Nat->Prop
 |[],_,_=>True
 |c::cs,b,o=>(∃ v,w.cell? ⟨b,o,none⟩=some v/\v.oneCell'=true/\aQ w M c v)/\bO w M cs b (o+1)
def aS (w:World) (M:Nat->Prop):List (List DV)->Nat->Nat->Nat->Prop
 |[],_,_,_=>True
 |r::rs,b,o,sz=>r.length=sz/\bO w M r b o/\aS w M rs b (o+sz) sz
end
structure lL (w:World) (M:Nat->Prop) (w':World) (M':Nat->Prop):Prop where
 size:w.heap.size<=w'.heap.size
 keep:∀ b,b<w.heap.size->¬ M b->w'.heap[b]?=w.heap[b]?/\¬ M' b
theorem lL.cell {w w':World} {M M':Nat->Prop} (h:lL w M w' M') {b o:Nat} (hb:b<w.heap.size) (hm:¬ M b):
  w'.cell? ⟨b,o,none⟩=w.cell? ⟨b,o,none⟩:=by
 unfold World.cell?;simp only;rw[(h.keep b hb hm).1]
theorem lL.shrink {w:World} {M M':Nat->Prop} (h:∀ b,M' b->M b):lL w M w M':=
 ⟨OH _,fun b _ hm=>⟨rfl,fun h'=>hm (h b h')⟩⟩
mutual
theorem aQ.ext {w w':World} {M M':Nat->Prop} (h:lL w M w' M'):∀ (d:DV) (v:Value),aQ w M d v->aQ w' M' d v
 | .int _ _,_,hr=>by unfold aQ at *;exact hr
 | .bool _,_,hr=>by unfold aQ at *;exact hr
 | .str _,_,hr=>by unfold aQ at *;exact hr
 | .slice rows,v,hr=>by
  unfold aQ at *
  obtain⟨a,cap,hv,hl,hn,hc⟩:=hr
  refine⟨a,cap,hv,hl,hn, ?_⟩
  rcases hc with hc|⟨b,o,sz,ha,hm,hb,hrows⟩
  ·exact .inl hc
  ·exact .inr ⟨b,o,sz,ha,(h.keep b hb hm).2,O4 hb h.size,aS.ext h rows b o sz hb hm hrows⟩
 | .agg cs,v,hr=>by
  unfold aQ at *
  obtain⟨vs,hv,h1,hl⟩:=hr
  exact⟨vs,hv,h1,aI.ext h cs vs hl⟩
 | .tup cs,v,hr=>by
  unfold aQ at *
  obtain⟨vs,hv,hl⟩:=hr
  exact⟨vs,hv,aI.ext h cs vs hl⟩
 | .ptr cs,v,hr=>by
  unfold aQ at *
  obtain⟨b,o,hv,hm,hb,hc⟩:=hr
  exact⟨b,o,hv,(h.keep b hb hm).2,O4 hb h.size,bO.ext h cs b o hb hm hc⟩
 | .fn _ caps,v,hr=>by
  unfold aQ at *
  obtain⟨vs,hv,hl⟩:=hr
  exact⟨vs,hv,aI.ext h caps vs hl⟩
 | .raw _,_,hr=>by unfold aQ at *;exact hr
 | .map _ _,_,hr=>by
  unfold aQ at *
  obtain⟨r,hv,hc⟩:=hr
  refine⟨r,hv, ?_⟩
  rcases hc with hc|⟨b,es,clock,hb,hm,hlt,hh,h1,h2⟩
  ·exact .inl hc
  ·exact .inr ⟨b,es,clock,hb,(h.keep b hlt hm).2,O4 hlt h.size,by rw[(h.keep b hlt hm).1];exact hh,h1,h2⟩
 | .err,_,hr=>by unfold aQ at *;exact hr
 | .any,_,_=>by unfold aQ;trivial
theorem aI.ext {w w':World} {M M':Nat->Prop} (h:lL w M w' M'):∀ (cs:List DV) (vs:List Value),aI w M cs vs->aI w' M' cs vs
 |[],_,hr=>by unfold aI at *;exact hr
 |c::cs,vs,hr=>by
  unfold aI at *
  obtain⟨u,us,hv,h1,h2⟩:=hr
  exact⟨u,us,hv,aQ.ext h c u h1,aI.ext h cs us h2⟩
theorem bO.ext {w w':World} {M M':Nat->Prop} (h:lL w M w' M'):∀ (cs:List DV) (b o:Nat),b<w.heap.size->¬ M b->bO w M cs b o->bO w' M' cs b o
 |[],_,_,_,_,_=>by unfold bO;trivial
 |c::cs,b,o,hb,hm,hr=>by
  unfold bO at *
  obtain⟨⟨v,hv,h1,hc⟩,hrest⟩:=hr
  exact⟨⟨v,by rw[h.cell hb hm];exact hv,h1,aQ.ext h c v hc⟩,bO.ext h cs b (o+1) hb hm hrest⟩
theorem aS.ext {w w':World} {M M':Nat->Prop} (h:lL w M w' M'):∀ (rs:List (List DV)) (b o sz:Nat),b<w.heap.size->¬ M b->aS w M rs b o sz->aS w' M' rs b o sz
 |[],_,_,_,_,_,_=>by unfold aS;trivial
 |r::rs,b,o,sz,hb,hm,hr=>by
  unfold aS at *
  obtain⟨h1,h2,h3⟩:=hr
  exact⟨h1,bO.ext h r b o hb hm h2,aS.ext h rs b (o+sz) sz hb hm h3⟩
end
def o_ (P:Program) (f:FuncId):Bool:=
 match P.funcs[f]? with
 |some fn=>fn.body.isSome&&fn.name != "runtime.NumGoroutine"
 |none=>false
inductive KK where
 |str
 |int (k:IntKind)
 |bool
 deriving DecidableEq
def KK.fits:KK->DV->Bool
 | .str,.str _=>true
 | .int k,.int k' _=>decide (k=k')
 | .bool,.bool _=>true
 |_,_=>false
inductive cB where
 |sh
 |sl (e:Nat) (ms:List cB)
 |pt (ms:List cB)
 |mp (kk:KK) (m:cB)
 |bld (T e:Nat)
def wX:Value->Option Nat
 | .pointer (some a)=>some a.block
 | .slice (some a) _ _=>some a.block
 | .map (some r)=>some r
 |_=>none
def kh (v:Value):List Nat:=(wX v).toList
def jo (R:List DV->List Value->List Nat->Prop):List (List DV)->List Value->List Nat->Prop
 |[],xs,G=>xs=[]/\G=[]
 |r::rs,xs,G=>∃ ys zs G1 G2,xs=ys++zs/\G=G1++G2/\R r ys G1/\jo R rs zs G2
def qt (R:DV->Value->List Nat->Prop) (kk:KK):List DV->List DV->List MapEntry->List Nat->Prop
 |[],ds,es,G=>ds=[]/\es=[]/\G=[]
 |k::ks,ds,es,G=>∃ d ds' e es' G1 G2,ds=d::ds'/\es=e::es'/\G=G1++G2/\kk.fits k=true/\dD k=some e.key/\R d e.val G1/\qt R kk ks ds' es' G2
def zL (w:World) (T e:Nat) (bs:List UInt8) (v:Value) (F:List Nat):Prop:=
 ∃ b p u,v= .pointer (some ⟨b,0,none⟩)/\w.heap[b]?=some (.cells #[p,u] T (0,0))/\(p= .pointer none\/p= .pointer (some ⟨b,0,none⟩))/\w.ownsRowF 0 e 1 u bs.length (Lib.byteCells bs)/\F=b::kh u
mutual
def gl (w:World) (M:Nat->Prop):cB->DV->Value->List Nat->Prop
 | .sh,d,v,F=>F=[]/\aQ w M d v
 | .sl e ms,d,v,F=>∃ rows xs G,d= .slice rows/\w.ownsRow 0 e ms.length v rows.length xs/\(∀ x∈xs,x.oneCell'=true)/\(∀ r∈rows,r.length=ms.length)/\
   jo (fun r ys G'=>iO w M ms r ys G') rows xs G/\F=kh v++G
 | .pt ms,d,v,F=>∃ cs b T vs G,d= .ptr cs/\v= .pointer (some ⟨b,0,none⟩)/\w.heap[b]?=some (.cells (List.toArray vs) T (0,0))/\(∀ x∈vs,x.oneCell'=true)/\iO w M ms cs vs G/\F=b::G
 | .mp kk m,d,v,F=>∃ ks ds r es clock G,d= .map ks ds/\v= .map (some r)/\w.heap[r]?=some (.map (List.toArray es) clock)/\DI es clock/\qt (fun d' v' G'=>gl w M m d' v' G') kk ks ds es G/\F=r::G
 | .bld T e,d,v,F=>∃ bs,d= .str bs/\zL w T e bs v F
def iO (w:World) (M:Nat->Prop):List cB->List DV->List Value->List Nat->Prop
 |[],ds,vs,F=>ds=[]/\vs=[]/\F=[]
 |m::ms,ds,vs,F=>∃ d ds' v vs' F1 F2,ds=d::ds'/\vs=v::vs'/\F=F1++F2/\gl w M m d v F1/\iO w M ms ds' vs' F2
end
theorem jo.mono {R R':List DV->List Value->List Nat->Prop}:∀ {rows:List (List DV)} {xs:List Value} {G:List Nat},(∀ r ys G',(∀ b∈G',b∈G)->R r ys G'->R' r ys G')->jo R rows xs G->jo R' rows xs G
 |[],xs,G,_,h=>h
 |r::rs,xs,G,hR,h=>by
  obtain⟨ys,zs,G1,G2,h1,rfl,h3,h4⟩:=h
  exact⟨ys,zs,G1,G2,h1,rfl,hR r ys G1 (fun b hb=>by simp[hb]) h3,jo.mono (fun r ys G' hG=>hR r ys G' fun b hb=>by simp[hG b hb]) h4⟩
theorem qt.mono {R R':DV->Value->List Nat->Prop} {kk:KK}:∀ {ks ds:List DV} {es:List MapEntry} {G:List Nat},(∀ d v G',(∀ b∈G',b∈G)->R d v G'->R' d v G')->qt R kk ks ds es G->qt R' kk ks ds es G
 |[],ds,es,G,_,h=>h
 |k::ks,ds,es,G,hR,h=>by
  obtain⟨d,ds',e,es',G1,G2,h1,h2,rfl,h3,h4,h5,h6⟩:=h
  exact⟨d,ds',e,es',G1,G2,h1,h2,rfl,h3,h4,hR d e.val G1 (fun b hb=>by simp[hb]) h5,qt.mono (fun d v G' hG=>hR d v G' fun b hb=>by simp[hG b hb]) h6⟩
theorem uy {w w':World} {e sz n:Nat} {v:Value} {xs:List Value} (hk:∀ b∈kh v,w'.heap[b]?=w.heap[b]?) (h:w.ownsRow 0 e sz v n xs):w'.ownsRow 0 e sz v n xs:=by
 refine⟨h.1, ?_⟩
 rcases h.2 with h|⟨g,cap,cur,hv,hb,hg,rest⟩
 ·exact .inl h
 ·exact .inr ⟨g,cap,cur,hv,hb,by rw[hk g (by simp[kh,hv,wX])];exact hg,rest⟩
theorem DJ {w w':World} {e sz n:Nat} {v:Value} {xs:List Value} (hk:∀ b∈kh v,w'.heap[b]?=w.heap[b]?) (h:w.ownsRowF 0 e sz v n xs):w'.ownsRowF 0 e sz v n xs:=by
 refine⟨h.1, ?_⟩
 rcases h.2 with h|⟨g,cap,cur,fz,hv,hb,hg,rest⟩
 ·exact .inl h
 ·exact .inr ⟨g,cap,cur,fz,hv,hb,by rw[hk g (by simp[kh,hv,wX])];exact hg,rest⟩
theorem zL.ext {w w':World} {T e:Nat} {bs:List UInt8} {v:Value} {F:List Nat} (hk:∀ b∈F,w'.heap[b]?=w.heap[b]?) (h:zL w T e bs v F):zL w' T e bs v F:=by
 obtain⟨b,p,u,h1,h2,h3,h4,rfl⟩:=h
 exact⟨b,p,u,h1,by rw[hk b oS];exact h2,h3,DJ (fun b hb=>hk b (by simp[hb])) h4,rfl⟩
mutual
theorem gl.ext {w w':World} {M M':Nat->Prop} (h:lL w M w' M'):∀ (m:cB) (d:DV) (v:Value) (F:List Nat),(∀ b∈F,w'.heap[b]?=w.heap[b]?)->gl w M m d v F->gl w' M' m d v F
 | .sh,d,v,F,hk,hr=>by
  unfold gl at *
  exact⟨hr.1,hr.2.ext h⟩
 | .sl e ms,d,v,F,hk,hr=>by
  unfold gl at *
  obtain⟨rows,xs,G,hd,ho,h1,h2,h3,rfl⟩:=hr
  exact⟨rows,xs,G,hd,uy (fun b hb=>hk b (by simp[hb])) ho,h1,h2,jo.mono (fun r ys G' hG hr=>iO.ext h ms r ys G' (fun b hb=>hk b (by simp[hG b hb])) hr) h3,rfl⟩
 | .pt ms,d,v,F,hk,hr=>by
  unfold gl at *
  obtain⟨cs,b,T,vs,G,hd,hv,hh,h1,h2,rfl⟩:=hr
  exact⟨cs,b,T,vs,G,hd,hv,by rw[hk b oS];exact hh,h1,iO.ext h ms cs vs G (fun b hb=>hk b (by simp[hb])) h2,rfl⟩
 | .mp kk m,d,v,F,hk,hr=>by
  unfold gl at *
  obtain⟨ks,ds,r,es,clock,G,hd,hv,hh,hB,h1,rfl⟩:=hr
  exact⟨ks,ds,r,es,clock,G,hd,hv,by rw[hk r oS];exact hh,hB,qt.mono (fun d v G' hG hr=>gl.ext h m d v G' (fun b hb=>hk b (by simp[hG b hb])) hr) h1,rfl⟩
 | .bld T e,d,v,F,hk,hr=>by
  unfold gl at *
  obtain⟨bs,h1,h2⟩:=hr
  exact⟨bs,h1,h2.ext hk⟩
theorem iO.ext {w w':World} {M M':Nat->Prop} (h:lL w M w' M'):∀ (ms:List cB) (ds:List DV) (vs:List Value) (F:List Nat),(∀ b∈F,w'.heap[b]?=w.heap[b]?)->iO w M ms ds vs F->iO w' M' ms ds vs F
 |[],ds,vs,F,_,hr=>by unfold iO at *;exact hr
 |m::ms,ds,vs,F,hk,hr=>by
  unfold iO at *
  obtain⟨d,ds',v,vs',F1,F2,h1,h2,rfl,h3,h4⟩:=hr
  exact⟨d,ds',v,vs',F1,F2,h1,h2,rfl,gl.ext h m d v F1 (fun b hb=>hk b (by simp[hb])) h3,iO.ext h ms ds' vs' F2 (fun b hb=>hk b (by simp[hb])) h4⟩
end
