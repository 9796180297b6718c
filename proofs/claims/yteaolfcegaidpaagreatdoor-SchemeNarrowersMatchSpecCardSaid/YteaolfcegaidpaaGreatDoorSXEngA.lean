/-
  My text.
-/
import Derived.KernelRfl
import Derived.Calls
import Derived.Orders
import Derived.Below
import Derived.WalkKit
import Derived.Lib.FrozenHead
namespace Go.Proofs.YteaolfcegaidpaaGreatDoor
theorem oK {p:Prop} (h:p:=by kernel_rfl):p:=h
theorem oM {p:Prop} (h:p:=by omega):p:=h
theorem oS {p:Prop} (h:p:=by simp):p:=h
theorem oD {p:Prop} (h:p:=by decide):p:=h
theorem oT {p:Prop} (h:p:=by (simp;omega)):p:=h
theorem oA {p:Prop} (h:p:=by assumption):p:=h
theorem oL {p:Prop} (h:p:=by (simp only[List.length_cons,List.length_nil];omega)):p:=h
theorem L7:type_of% @Option.some.injEq:=@Option.some.injEq
theorem L8:type_of% @Option.bind_some:=@Option.bind_some
theorem L9:type_of% @Bool.and_eq_true:=@Bool.and_eq_true
theorem L_:type_of% @Prod.mk.injEq:=@Prod.mk.injEq
theorem Ma:type_of% @decide_eq_true_eq:=@decide_eq_true_eq
theorem Mb:type_of% @List.mem_of_getElem?:=@List.mem_of_getElem?
theorem Mc:type_of% @beq_iff_eq:=@beq_iff_eq
theorem Md:type_of% @List.getElem?_eq_some_iff:=@List.getElem?_eq_some_iff
theorem Me:type_of% @Nat.le_refl:=@Nat.le_refl
theorem Mf:type_of% @cond_true:=@cond_true
theorem Mg:type_of% @cond_false:=@cond_false
theorem Mh:type_of% @List.length_append:=@List.length_append
theorem Mi:type_of% @List.getElem?_eq_getElem:=@List.getElem?_eq_getElem
theorem Mj:type_of% @Bool.true_and:=@Bool.true_and
theorem Mk:type_of% @List.map_cons:=@List.map_cons
theorem Ml:type_of% @List.mem_cons:=@List.mem_cons
theorem Mm:type_of% @Bool.not_true:=@Bool.not_true
theorem Mn:type_of% @List.cons_append:=@List.cons_append
theorem Mo:type_of% @Bool.not_false:=@Bool.not_false
theorem Mp:type_of% @Bool.eq_iff_iff:=@Bool.eq_iff_iff
theorem Mq:type_of% @List.nil_append:=@List.nil_append
theorem Mr:type_of% @Nat.lt_or_ge:=@Nat.lt_or_ge
theorem Ms:type_of% @List.length_eq_zero_iff:=@List.length_eq_zero_iff
theorem Mt:type_of% @List.mem_append:=@List.mem_append
theorem Mu:type_of% @Bool.or_eq_true:=@Bool.or_eq_true
theorem Mv:type_of% @List.length_cons:=@List.length_cons
theorem Mw:type_of% @List.append_nil:=@List.append_nil
theorem Mx:type_of% @Nat.lt_of_lt_of_le:=@Nat.lt_of_lt_of_le
theorem My:type_of% @Bool.false_eq_true:=@Bool.false_eq_true
theorem Mz:type_of% @List.append_assoc:=@List.append_assoc
theorem MA:type_of% @decide_eq_false_iff_not:=@decide_eq_false_iff_not
theorem MB:type_of% @Bool.false_or:=@Bool.false_or
theorem MC:type_of% @List.mem_of_mem_take:=@List.mem_of_mem_take
theorem MD:type_of% @List.all_eq_true:=@List.all_eq_true
theorem ME:type_of% @Nat.zero_le:=@Nat.zero_le
theorem MF:type_of% @List.take_of_length_le:=@List.take_of_length_le
theorem MG:type_of% @List.cons.injEq:=@List.cons.injEq
theorem MH:type_of% @List.getElem?_map:=@List.getElem?_map
theorem MI:type_of% @List.length_singleton:=@List.length_singleton
theorem MJ:type_of% @List.flatten_cons:=@List.flatten_cons
theorem MK:type_of% @List.length_take:=@List.length_take
theorem ML:type_of% @Bool.or_eq_false_iff:=@Bool.or_eq_false_iff
theorem MM:type_of% @List.take_append_drop:=@List.take_append_drop
theorem MN:type_of% @List.nodup_append:=@List.nodup_append
theorem MO:type_of% @Option.getD_some:=@Option.getD_some
theorem MP:type_of% @List.mem_cons_self:=@List.mem_cons_self
theorem MQ:type_of% @List.take_length:=@List.take_length
theorem MR:type_of% @Array.toList_inj:=@Array.toList_inj
theorem MS:type_of% @Option.map_some:=@Option.map_some
theorem MT:type_of% @List.mem_map:=@List.mem_map
theorem MU:type_of% @List.mem_of_mem_drop:=@List.mem_of_mem_drop
theorem MV:type_of% @Option.isSome_iff_exists:=@Option.isSome_iff_exists
theorem MW:type_of% @List.not_mem_nil:=@List.not_mem_nil
theorem MY:type_of% @Array.getElem?_eq_some_iff:=@Array.getElem?_eq_some_iff
theorem MZ:type_of% @if_false:=@if_false
theorem M1:type_of% @List.getElem?_cons_succ:=@List.getElem?_cons_succ
theorem M2:type_of% @Bool.not_eq_true':=@Bool.not_eq_true'
theorem M3:type_of% @List.mem_cons_of_mem:=@List.mem_cons_of_mem
theorem M4:type_of% @Nat.add_mul:=@Nat.add_mul
theorem M5:type_of% @Nat.le_trans:=@Nat.le_trans
theorem M6:type_of% @List.length_map:=@List.length_map
theorem M7:type_of% @Nat.zero_add:=@Nat.zero_add
theorem M8:type_of% @List.getElem?_drop:=@List.getElem?_drop
theorem M9:type_of% @decide_eq_true:=@decide_eq_true
theorem M_:type_of% @Bool.and_eq_false_iff:=@Bool.and_eq_false_iff
theorem Na:type_of% @Int.le_refl:=@Int.le_refl
theorem Nb:type_of% @List.mem_range:=@List.mem_range
theorem Nc:type_of% @List.getElem?_take:=@List.getElem?_take
theorem Nd:type_of% @List.mem_singleton:=@List.mem_singleton
theorem Nf:type_of% @Option.getD_none:=@Option.getD_none
theorem Ng:type_of% @Array.getElem?_eq_getElem:=@Array.getElem?_eq_getElem
theorem Nh:type_of% @Int.toNat_natCast:=@Int.toNat_natCast
theorem Ni:type_of% @decide_eq_false:=@decide_eq_false
theorem Nj:type_of% @List.length_nil:=@List.length_nil
theorem Nk:type_of% @Array.getD_eq_getD_getElem?:=@Array.getD_eq_getD_getElem?
theorem Nl:type_of% @List.drop_length:=@List.drop_length
theorem Nm:type_of% @List.getElem?_append_right:=@List.getElem?_append_right
theorem Nn:type_of% @List.drop_of_length_le:=@List.drop_of_length_le
theorem Np:type_of% @List.drop_eq_getElem_cons:=@List.drop_eq_getElem_cons
theorem Nq:type_of% @List.length_drop:=@List.length_drop
theorem Nr:type_of% @if_true:=@if_true
theorem Ns:type_of% @List.drop_drop:=@List.drop_drop
theorem Nt:type_of% @List.contains_eq_mem:=@List.contains_eq_mem
theorem Nu:type_of% @List.getElem?_cons_zero:=@List.getElem?_cons_zero
theorem Nv:type_of% @List.map_congr_left:=@List.map_congr_left
theorem Nw:type_of% @List.map_nil:=@List.map_nil
theorem Nx:type_of% @Bool.not_eq_true:=@Bool.not_eq_true
theorem Ny:type_of% @List.any_eq_true:=@List.any_eq_true
theorem Nz:type_of% @List.getElem?_eq_none_iff:=@List.getElem?_eq_none_iff
theorem NA:type_of% @Nat.mul_le_mul_right:=@Nat.mul_le_mul_right
theorem NB:type_of% @decide_false:=@decide_false
theorem NC:type_of% @Bool.true_eq_false:=@Bool.true_eq_false
theorem ND:type_of% @List.getElem?_append_left:=@List.getElem?_append_left
theorem NE:type_of% @List.getElem?_of_mem:=@List.getElem?_of_mem
theorem NF:type_of% @decide_true:=@decide_true
theorem NG:type_of% @Int.mul_add:=@Int.mul_add
theorem NH:type_of% @if_pos:=@if_pos
theorem NI:type_of% @Nat.add_zero:=@Nat.add_zero
theorem NJ:type_of% @List.take_succ_cons:=@List.take_succ_cons
theorem NK:type_of% @Bool.and_true:=@Bool.and_true
theorem NL:type_of% @List.all_cons:=@List.all_cons
theorem NM:type_of% @List.zip_cons_cons:=@List.zip_cons_cons
theorem NN:type_of% @Option.map_none:=@Option.map_none
theorem NO:type_of% @List.nodup_cons:=@List.nodup_cons
theorem NP:type_of% @List.map_append:=@List.map_append
theorem NQ:type_of% @List.mem_filter:=@List.mem_filter
theorem NR:type_of% @Option.some.inj:=@Option.some.inj
theorem NS:type_of% @List.Sublist.refl:=@List.Sublist.refl
theorem NT:type_of% @Classical.not_not:=@Classical.not_not
theorem NU:type_of% @Bool.false_and:=@Bool.false_and
theorem NV:type_of% @List.map_map:=@List.map_map
theorem NW:type_of% @List.findIdx?_append:=@List.findIdx?_append
theorem NX:type_of% @Bool.or_false:=@Bool.or_false
theorem NY:type_of% @if_neg:=@if_neg
theorem NZ:type_of% @Int.add_assoc:=@Int.add_assoc
theorem N0:type_of% @List.Sublist.append:=@List.Sublist.append
theorem N1:type_of% @List.flatten_append:=@List.flatten_append
theorem N2:type_of% @List.replicate_succ:=@List.replicate_succ
theorem N3:type_of% @List.filter_eq_self:=@List.filter_eq_self
theorem N4:type_of% @beq_eq_false_iff_ne:=@beq_eq_false_iff_ne
theorem N5:type_of% @Nat.min_eq_left:=@Nat.min_eq_left
theorem N6:type_of% @List.any_append:=@List.any_append
theorem N7:type_of% @Int.pow_succ:=@Int.pow_succ
theorem N8:type_of% @Bool.and_false:=@Bool.and_false
set_option linter.unusedSimpArgs false
set_option linter.unusedVariables false
open Go.RowKit
inductive DV where
 |int (k:IntKind) (n:Int)
 |bool (b:Bool)
 |str (s:List UInt8)
 |slice (rows:List (List DV))
 |agg (cs:List DV)
 |tup (cs:List DV)
 |ptr (cs:List DV)
 |fn (f:FuncId) (caps:List DV)
 |raw (v:Value)
 |map (ks vs:List DV)
 |err
 |any
def cH:DV->Option Value
 | .int k n=>some (.int k n)
 | .str s=>some (.string ⟨s.toArray⟩)
 | .bool b=>some (.bool b)
 |_=>none
def B0 (es:List MapEntry) (clock:Nat):Prop:=(∀ e∈es,e.born<clock)/\(es.map (·.born)).Nodup
def nR:List DV->List DV->List MapEntry->Prop
 |[],[],[]=>True
 |k::ks,v::vs,e::es=>cH k=some e.key/\cH v=some e.val/\nR ks vs es
 |_,_,_=>False
mutual
def aK (w:World) (M:Nat->Prop):DV->Value->Prop
 | .int k n,v=>v= .int k n
 | .bool b,v=>v= .bool b
 | .str s,v=>v= .string ⟨s.toArray⟩
 | .slice rows,v=>∃ a cap,v= .slice a rows.length cap/\rows.length<=cap/\(a=none->cap=0)/\
   (rows=[]\/∃ b o sz,a=some ⟨b,o,none⟩/\¬ M b/\b<w.heap.size/\aL w M rows b o sz)
 | .agg cs,v=>∃ vs:List Value,v= .agg vs.toArray/\(∀ x∈vs,x.oneCell'=true)/\aB w M cs vs
 | .tup cs,v=>∃ vs:List Value,v= .tuple vs.toArray/\aB w M cs vs
 | .ptr cs,v=>∃ b o,v= .pointer (some ⟨b,o,none⟩)/\¬ M b/\b<w.heap.size/\bq w M cs b o
 | .fn f caps,v=>∃ vs:List Value,v= .func (.func f) #[] vs.toArray/\aB w M caps vs
 | .raw u,v=>v=u
 | .map ks vs,v=>∃ r,v= .map r/\((r=none/\ks=[]/\vs=[])\/∃ b es clock,r=some b/\¬ M b/\b<w.heap.size/\w.heap[b]?=some (.map (List.toArray es) clock)/\B0 es clock/\nR ks vs es)
 | .err,v=>∃ t u,v= .iface t u
 | .any,_=>True
def aB (w:World) (M:Nat->Prop):List DV->List Value->Prop
 |[],vs=>vs=[]
 |c::cs,vs=>∃ u us,vs=u::us/\aK w M c u/\aB w M cs us
def bq (w:World) (M:Nat->Prop):List DV->Nat->Nat->Prop
 |[],_,_=>True
 |c::cs,b,o=>(∃ v,w.cell? ⟨b,o,none⟩=some v/\v.oneCell'=true/\aK w M c v)/\bq w M cs b (o+1)
def aL (w:World) (M:Nat->Prop):List (List DV)->Nat->Nat->Nat->Prop
 |[],_,_,_=>True
 |r::rs,b,o,sz=>r.length=sz/\bq w M r b o/\aL w M rs b (o+sz) sz
end
structure kN (w:World) (M:Nat->Prop) (w':World) (M':Nat->Prop):Prop where
 size:w.heap.size<=w'.heap.size
 keep:∀ b,b<w.heap.size->¬ M b->w'.heap[b]?=w.heap[b]?/\¬ M' b
theorem kN.cell {w w':World} {M M':Nat->Prop} (h:kN w M w' M') {b o:Nat} (hb:b<w.heap.size) (hm:¬ M b):
  w'.cell? ⟨b,o,none⟩=w.cell? ⟨b,o,none⟩:=by
 unfold World.cell?;simp only;rw[(h.keep b hb hm).1]
theorem kN.shrink {w:World} {M M':Nat->Prop} (h:∀ b,M' b->M b):kN w M w M':=
 ⟨Me _,fun b _ hm=>⟨rfl,fun h'=>hm (h b h')⟩⟩
mutual
theorem aK.ext {w w':World} {M M':Nat->Prop} (h:kN w M w' M'):∀ (d:DV) (v:Value),aK w M d v->aK w' M' d v
 | .int _ _,_,hr=>by unfold aK at *;exact hr
 | .bool _,_,hr=>by unfold aK at *;exact hr
 | .str _,_,hr=>by unfold aK at *;exact hr
 | .slice rows,v,hr=>by
  unfold aK at *
  obtain⟨a,cap,hv,hl,hn,hc⟩:=hr
  refine⟨a,cap,hv,hl,hn, ?_⟩
  rcases hc with hc|⟨b,o,sz,ha,hm,hb,hrows⟩
  ·exact .inl hc
  ·exact .inr ⟨b,o,sz,ha,(h.keep b hb hm).2,Mx hb h.size,aL.ext h rows b o sz hb hm hrows⟩
 | .agg cs,v,hr=>by
  unfold aK at *
  obtain⟨vs,hv,h1,hl⟩:=hr
  exact⟨vs,hv,h1,aB.ext h cs vs hl⟩
 | .tup cs,v,hr=>by
  unfold aK at *
  obtain⟨vs,hv,hl⟩:=hr
  exact⟨vs,hv,aB.ext h cs vs hl⟩
 | .ptr cs,v,hr=>by
  unfold aK at *
  obtain⟨b,o,hv,hm,hb,hc⟩:=hr
  exact⟨b,o,hv,(h.keep b hb hm).2,Mx hb h.size,bq.ext h cs b o hb hm hc⟩
 | .fn _ caps,v,hr=>by
  unfold aK at *
  obtain⟨vs,hv,hl⟩:=hr
  exact⟨vs,hv,aB.ext h caps vs hl⟩
 | .raw _,_,hr=>by unfold aK at *;exact hr
 | .map _ _,_,hr=>by
  unfold aK at *
  obtain⟨r,hv,hc⟩:=hr
  refine⟨r,hv, ?_⟩
  rcases hc with hc|⟨b,es,clock,hb,hm,hlt,hh,h1,h2⟩
  ·exact .inl hc
  ·exact .inr ⟨b,es,clock,hb,(h.keep b hlt hm).2,Mx hlt h.size,by rw[(h.keep b hlt hm).1];exact hh,h1,h2⟩
 | .err,_,hr=>by unfold aK at *;exact hr
 | .any,_,_=>by unfold aK;trivial
theorem aB.ext {w w':World} {M M':Nat->Prop} (h:kN w M w' M'):∀ (cs:List DV) (vs:List Value),aB w M cs vs->aB w' M' cs vs
 |[],_,hr=>by unfold aB at *;exact hr
 |c::cs,vs,hr=>by
  unfold aB at *
  obtain⟨u,us,hv,h1,h2⟩:=hr
  exact⟨u,us,hv,aK.ext h c u h1,aB.ext h cs us h2⟩
theorem bq.ext {w w':World} {M M':Nat->Prop} (h:kN w M w' M'):∀ (cs:List DV) (b o:Nat),b<w.heap.size->¬ M b->bq w M cs b o->bq w' M' cs b o
 |[],_,_,_,_,_=>by unfold bq;trivial
 |c::cs,b,o,hb,hm,hr=>by
  unfold bq at *
  obtain⟨⟨v,hv,h1,hc⟩,hrest⟩:=hr
  exact⟨⟨v,by rw[h.cell hb hm];exact hv,h1,aK.ext h c v hc⟩,bq.ext h cs b (o+1) hb hm hrest⟩
theorem aL.ext {w w':World} {M M':Nat->Prop} (h:kN w M w' M'):∀ (rs:List (List DV)) (b o sz:Nat),b<w.heap.size->¬ M b->aL w M rs b o sz->aL w' M' rs b o sz
 |[],_,_,_,_,_,_=>by unfold aL;trivial
 |r::rs,b,o,sz,hb,hm,hr=>by
  unfold aL at *
  obtain⟨h1,h2,h3⟩:=hr
  exact⟨h1,bq.ext h r b o hb hm h2,aL.ext h rs b (o+sz) sz hb hm h3⟩
end
def nS (P:Program) (f:FuncId):Bool:=
 match P.funcs[f]? with
 |some fn=>fn.body.isSome&&fn.name != "runtime.NumGoroutine"
 |none=>false
inductive KK where
 |str
 |int (k:IntKind)
 |bool
 deriving DecidableEq
def KK.fits:KK->DV->Bool
 | .str,.str _=>true
 | .int k,.int k' _=>decide (k=k')
 | .bool,.bool _=>true
 |_,_=>false
inductive b8 where
 |sh
 |sl (e:Nat) (ms:List b8)
 |pt (ms:List b8)
 |mp (kk:KK) (m:b8)
 |bld (T e:Nat)
def vw:Value->Option Nat
 | .pointer (some a)=>some a.block
 | .slice (some a) _ _=>some a.block
 | .map (some r)=>some r
 |_=>none
def jy (v:Value):List Nat:=(vw v).toList
def iC (R:List DV->List Value->List Nat->Prop):List (List DV)->List Value->List Nat->Prop
 |[],xs,G=>xs=[]/\G=[]
 |r::rs,xs,G=>∃ ys zs G1 G2,xs=ys++zs/\G=G1++G2/\R r ys G1/\iC R rs zs G2
def pv (R:DV->Value->List Nat->Prop) (kk:KK):List DV->List DV->List MapEntry->List Nat->Prop
 |[],ds,es,G=>ds=[]/\es=[]/\G=[]
 |k::ks,ds,es,G=>∃ d ds' e es' G1 G2,ds=d::ds'/\es=e::es'/\G=G1++G2/\kk.fits k=true/\cH k=some e.key/\R d e.val G1/\pv R kk ks ds' es' G2
def yb (w:World) (T e:Nat) (bs:List UInt8) (v:Value) (F:List Nat):Prop:=
 ∃ b p u,v= .pointer (some ⟨b,0,none⟩)/\w.heap[b]?=some (.cells #[p,u] T (0,0))/\(p= .pointer none\/p= .pointer (some ⟨b,0,none⟩))/\w.ownsRowF 0 e 1 u bs.length (Lib.byteCells bs)/\F=b::jy u
mutual
def fA (w:World) (M:Nat->Prop):b8->DV->Value->List Nat->Prop
 | .sh,d,v,F=>F=[]/\aK w M d v
 | .sl e ms,d,v,F=>∃ rows xs G,d= .slice rows/\w.ownsRow 0 e ms.length v rows.length xs/\(∀ x∈xs,x.oneCell'=true)/\(∀ r∈rows,r.length=ms.length)/\
   iC (fun r ys G'=>gW w M ms r ys G') rows xs G/\F=jy v++G
 | .pt ms,d,v,F=>∃ cs b T vs G,d= .ptr cs/\v= .pointer (some ⟨b,0,none⟩)/\w.heap[b]?=some (.cells (List.toArray vs) T (0,0))/\(∀ x∈vs,x.oneCell'=true)/\gW w M ms cs vs G/\F=b::G
 | .mp kk m,d,v,F=>∃ ks ds r es clock G,d= .map ks ds/\v= .map (some r)/\w.heap[r]?=some (.map (List.toArray es) clock)/\B0 es clock/\pv (fun d' v' G'=>fA w M m d' v' G') kk ks ds es G/\F=r::G
 | .bld T e,d,v,F=>∃ bs,d= .str bs/\yb w T e bs v F
def gW (w:World) (M:Nat->Prop):List b8->List DV->List Value->List Nat->Prop
 |[],ds,vs,F=>ds=[]/\vs=[]/\F=[]
 |m::ms,ds,vs,F=>∃ d ds' v vs' F1 F2,ds=d::ds'/\vs=v::vs'/\F=F1++F2/\fA w M m d v F1/\gW w M ms ds' vs' F2
end
theorem iC.mono {R R':List DV->List Value->List Nat->Prop}:∀ {rows:List (List DV)} {xs:List Value} {G:List Nat},(∀ r ys G',(∀ b∈G',b∈G)->R r ys G'->R' r ys G')->iC R rows xs G->iC R' rows xs G
 |[],xs,G,_,h=>h
 |r::rs,xs,G,hR,h=>by
  obtain⟨ys,zs,G1,G2,h1,rfl,h3,h4⟩:=h
  exact⟨ys,zs,G1,G2,h1,rfl,hR r ys G1 (fun b hb=>by simp[hb]) h3,iC.mono (fun r ys G' hG=>hR r ys G' fun b hb=>by simp[hG b hb]) h4⟩
theorem pv.mono {R R':DV->Value->List Nat->Prop} {kk:KK}:∀ {ks ds:List DV} {es:List MapEntry} {G:List Nat},(∀ d v G',(∀ b∈G',b∈G)->R d v G'->R' d v G')->pv R kk ks ds es G->pv R' kk ks ds es G
 |[],ds,es,G,_,h=>h
 |k::ks,ds,es,G,hR,h=>by
  obtain⟨d,ds',e,es',G1,G2,h1,h2,rfl,h3,h4,h5,h6⟩:=h
  exact⟨d,ds',e,es',G1,G2,h1,h2,rfl,h3,h4,hR d e.val G1 (fun b hb=>by simp[hb]) h5,pv.mono (fun d v G' hG=>hR d v G' fun b hb=>by simp[hG b hb]) h6⟩
theorem tc {w w':World} {e sz n:Nat} {v:Value} {xs:List Value} (hk:∀ b∈jy v,w'.heap[b]?=w.heap[b]?) (h:w.ownsRow 0 e sz v n xs):w'.ownsRow 0 e sz v n xs:=by
 refine⟨h.1, ?_⟩
 rcases h.2 with h|⟨g,cap,cur,hv,hb,hg,rest⟩
 ·exact .inl h
 ·exact .inr ⟨g,cap,cur,hv,hb,by rw[hk g (by simp[jy,hv,vw])];exact hg,rest⟩
theorem B1 {w w':World} {e sz n:Nat} {v:Value} {xs:List Value} (hk:∀ b∈jy v,w'.heap[b]?=w.heap[b]?) (h:w.ownsRowF 0 e sz v n xs):w'.ownsRowF 0 e sz v n xs:=by
 refine⟨h.1, ?_⟩
 rcases h.2 with h|⟨g,cap,cur,fz,hv,hb,hg,rest⟩
 ·exact .inl h
 ·exact .inr ⟨g,cap,cur,fz,hv,hb,by rw[hk g (by simp[jy,hv,vw])];exact hg,rest⟩
theorem yb.ext {w w':World} {T e:Nat} {bs:List UInt8} {v:Value} {F:List Nat} (hk:∀ b∈F,w'.heap[b]?=w.heap[b]?) (h:yb w T e bs v F):yb w' T e bs v F:=by
 obtain⟨b,p,u,h1,h2,h3,h4,rfl⟩:=h
 exact⟨b,p,u,h1,by rw[hk b oS];exact h2,h3,B1 (fun b hb=>hk b (by simp[hb])) h4,rfl⟩
mutual
theorem fA.ext {w w':World} {M M':Nat->Prop} (h:kN w M w' M'):∀ (m:b8) (d:DV) (v:Value) (F:List Nat),(∀ b∈F,w'.heap[b]?=w.heap[b]?)->fA w M m d v F->fA w' M' m d v F
 | .sh,d,v,F,hk,hr=>by
  unfold fA at *
  exact⟨hr.1,hr.2.ext h⟩
 | .sl e ms,d,v,F,hk,hr=>by
  unfold fA at *
  obtain⟨rows,xs,G,hd,ho,h1,h2,h3,rfl⟩:=hr
  exact⟨rows,xs,G,hd,tc (fun b hb=>hk b (by simp[hb])) ho,h1,h2,iC.mono (fun r ys G' hG hr=>gW.ext h ms r ys G' (fun b hb=>hk b (by simp[hG b hb])) hr) h3,rfl⟩
 | .pt ms,d,v,F,hk,hr=>by
  unfold fA at *
  obtain⟨cs,b,T,vs,G,hd,hv,hh,h1,h2,rfl⟩:=hr
  exact⟨cs,b,T,vs,G,hd,hv,by rw[hk b oS];exact hh,h1,gW.ext h ms cs vs G (fun b hb=>hk b (by simp[hb])) h2,rfl⟩
 | .mp kk m,d,v,F,hk,hr=>by
  unfold fA at *
  obtain⟨ks,ds,r,es,clock,G,hd,hv,hh,hB,h1,rfl⟩:=hr
  exact⟨ks,ds,r,es,clock,G,hd,hv,by rw[hk r oS];exact hh,hB,pv.mono (fun d v G' hG hr=>fA.ext h m d v G' (fun b hb=>hk b (by simp[hG b hb])) hr) h1,rfl⟩
 | .bld T e,d,v,F,hk,hr=>by
  unfold fA at *
  obtain⟨bs,h1,h2⟩:=hr
  exact⟨bs,h1,h2.ext hk⟩
theorem gW.ext {w w':World} {M M':Nat->Prop} (h:kN w M w' M'):∀ (ms:List b8) (ds:List DV) (vs:List Value) (F:List Nat),(∀ b∈F,w'.heap[b]?=w.heap[b]?)->gW w M ms ds vs F->gW w' M' ms ds vs F
 |[],ds,vs,F,_,hr=>by unfold gW at *;exact hr
 |m::ms,ds,vs,F,hk,hr=>by
  unfold gW at *
  obtain⟨d,ds',v,vs',F1,F2,h1,h2,rfl,h3,h4⟩:=hr
  exact⟨d,ds',v,vs',F1,F2,h1,h2,rfl,fA.ext h m d v F1 (fun b hb=>hk b (by simp[hb])) h3,gW.ext h ms ds' vs' F2 (fun b hb=>hk b (by simp[hb])) h4⟩
end
