/-
  My text.
-/
import Derived.KernelRfl
import Derived.Calls
import Derived.Orders
import Derived.Below
import Derived.WalkKit
import Derived.Lib.FrozenHead
namespace Go.Proofs.YtgmnipfafmphaaaGreatDoor
theorem oK {p:Prop} (h:p:=by kernel_rfl):p:=h
theorem oM {p:Prop} (h:p:=by omega):p:=h
theorem oS {p:Prop} (h:p:=by simp):p:=h
theorem oD {p:Prop} (h:p:=by decide):p:=h
theorem oT {p:Prop} (h:p:=by (simp;omega)):p:=h
theorem oA {p:Prop} (h:p:=by assumption):p:=h
theorem oL {p:Prop} (h:p:=by (simp only[List.length_cons,List.length_nil];omega)):p:=h
theorem K0:type_of% @Option.some.injEq:=@Option.some.injEq
theorem K1:type_of% @Bool.and_eq_true:=@Bool.and_eq_true
theorem K2:type_of% @Prod.mk.injEq:=@Prod.mk.injEq
theorem K3:type_of% @Option.bind_some:=@Option.bind_some
theorem K4:type_of% @List.length_append:=@List.length_append
theorem K5:type_of% @List.getElem?_eq_some_iff:=@List.getElem?_eq_some_iff
theorem K6:type_of% @List.getElem?_eq_getElem:=@List.getElem?_eq_getElem
theorem K7:type_of% @List.length_cons:=@List.length_cons
theorem K8:type_of% @List.mem_of_getElem?:=@List.mem_of_getElem?
theorem K9:type_of% @Nat.le_refl:=@Nat.le_refl
theorem K_:type_of% @decide_eq_true_eq:=@decide_eq_true_eq
theorem La:type_of% @beq_iff_eq:=@beq_iff_eq
theorem Lb:type_of% @List.length_take:=@List.length_take
theorem Lc:type_of% @List.append_assoc:=@List.append_assoc
theorem Ld:type_of% @List.length_eq_zero_iff:=@List.length_eq_zero_iff
theorem Le:type_of% @List.mem_append:=@List.mem_append
theorem Lf:type_of% @List.length_nil:=@List.length_nil
theorem Lg:type_of% @List.take_append_drop:=@List.take_append_drop
theorem Lh:type_of% @List.map_cons:=@List.map_cons
theorem Li:type_of% @List.mem_cons:=@List.mem_cons
theorem Lj:type_of% @List.all_eq_true:=@List.all_eq_true
theorem Lk:type_of% @List.nil_append:=@List.nil_append
theorem Ll:type_of% @List.length_replicate:=@List.length_replicate
theorem Lm:type_of% @Bool.false_eq_true:=@Bool.false_eq_true
theorem Ln:type_of% @cond_true:=@cond_true
theorem Lo:type_of% @Array.getElem?_eq_some_iff:=@Array.getElem?_eq_some_iff
theorem Lp:type_of% @decide_eq_false_iff_not:=@decide_eq_false_iff_not
theorem Lq:type_of% @List.mem_of_mem_take:=@List.mem_of_mem_take
theorem Lr:type_of% @List.append_nil:=@List.append_nil
theorem Lt:type_of% @List.mem_map:=@List.mem_map
theorem Lu:type_of% @List.take_of_length_le:=@List.take_of_length_le
theorem Lv:type_of% @List.getElem?_append_right:=@List.getElem?_append_right
theorem Lw:type_of% @List.cons_append:=@List.cons_append
theorem Lx:type_of% @Nat.lt_or_ge:=@Nat.lt_or_ge
theorem Ly:type_of% @List.nodup_append:=@List.nodup_append
theorem Lz:type_of% @Nat.lt_of_lt_of_le:=@Nat.lt_of_lt_of_le
theorem LA:type_of% @List.mem_singleton:=@List.mem_singleton
theorem LB:type_of% @Array.getD_eq_getD_getElem?:=@Array.getD_eq_getD_getElem?
theorem LC:type_of% @List.flatten_cons:=@List.flatten_cons
theorem LD:type_of% @List.getElem?_map:=@List.getElem?_map
theorem LE:type_of% @cond_false:=@cond_false
theorem LF:type_of% @Nat.zero_add:=@Nat.zero_add
theorem LG:type_of% @Bool.not_true:=@Bool.not_true
theorem LH:type_of% @List.getElem?_append_left:=@List.getElem?_append_left
theorem LI:type_of% @if_false:=@if_false
theorem LJ:type_of% @List.getElem?_take:=@List.getElem?_take
theorem LK:type_of% @List.cons.injEq:=@List.cons.injEq
theorem LL:type_of% @Bool.not_false:=@Bool.not_false
theorem LM:type_of% @List.mem_range:=@List.mem_range
theorem LN:type_of% @List.length_map:=@List.length_map
theorem LO:type_of% @Nat.le_trans:=@Nat.le_trans
theorem LP:type_of% @Bool.eq_iff_iff:=@Bool.eq_iff_iff
theorem LQ:type_of% @List.getElem?_drop:=@List.getElem?_drop
theorem LR:type_of% @Array.getElem?_eq_getElem:=@Array.getElem?_eq_getElem
theorem LS:type_of% @List.map_congr_left:=@List.map_congr_left
theorem LT:type_of% @Nat.zero_le:=@Nat.zero_le
theorem LU:type_of% @Nat.add_mul:=@Nat.add_mul
theorem LV:type_of% @Bool.or_eq_true:=@Bool.or_eq_true
theorem LW:type_of% @List.mem_of_mem_drop:=@List.mem_of_mem_drop
theorem LX:type_of% @if_true:=@if_true
theorem LY:type_of% @Array.toList_inj:=@Array.toList_inj
theorem LZ:type_of% @List.not_mem_nil:=@List.not_mem_nil
theorem L0:type_of% @Bool.not_eq_true':=@Bool.not_eq_true'
theorem L1:type_of% @List.mem_iff_getElem:=@List.mem_iff_getElem
theorem L2:type_of% @Option.isSome_iff_exists:=@Option.isSome_iff_exists
theorem L4:type_of% @Bool.true_and:=@Bool.true_and
theorem L5:type_of% @List.length_drop:=@List.length_drop
theorem L6:type_of% @List.drop_eq_getElem_cons:=@List.drop_eq_getElem_cons
theorem L7:type_of% @Bool.or_eq_false_iff:=@Bool.or_eq_false_iff
theorem L8:type_of% @List.drop_of_length_le:=@List.drop_of_length_le
theorem L9:type_of% @Option.getD_some:=@Option.getD_some
theorem L_:type_of% @List.flatMap_cons:=@List.flatMap_cons
theorem Ma:type_of% @List.getElem?_cons_zero:=@List.getElem?_cons_zero
theorem Mb:type_of% @List.getElem?_cons_succ:=@List.getElem?_cons_succ
theorem Mc:type_of% @List.length_singleton:=@List.length_singleton
theorem Md:type_of% @List.getElem?_take_of_lt:=@List.getElem?_take_of_lt
theorem Me:type_of% @Option.map_some:=@Option.map_some
theorem Mf:type_of% @List.mem_append_left:=@List.mem_append_left
theorem Mg:type_of% @Array.all_eq_true_iff_forall_mem:=@Array.all_eq_true_iff_forall_mem
theorem Mh:type_of% @Bool.false_or:=@Bool.false_or
theorem Mi:type_of% @List.drop_eq_nil_of_le:=@List.drop_eq_nil_of_le
theorem Mj:type_of% @Option.some.inj:=@Option.some.inj
theorem Mk:type_of% @List.take_append_of_le_length:=@List.take_append_of_le_length
theorem Ml:type_of% @Bool.not_eq_true:=@Bool.not_eq_true
theorem Mm:type_of% @Nat.lt_or_eq_of_le:=@Nat.lt_or_eq_of_le
theorem Mn:type_of% @List.drop_drop:=@List.drop_drop
theorem Mo:type_of% @Int.toNat_natCast:=@Int.toNat_natCast
theorem Mp:type_of% @List.Sublist.refl:=@List.Sublist.refl
theorem Mq:type_of% @Array.size_push:=@Array.size_push
theorem Mr:type_of% @List.length_pos_iff:=@List.length_pos_iff
theorem Mt:type_of% @List.take_succ_cons:=@List.take_succ_cons
theorem Mu:type_of% @List.all_cons:=@List.all_cons
theorem Mv:type_of% @List.mem_cons_of_mem:=@List.mem_cons_of_mem
theorem Mw:type_of% @List.map_append:=@List.map_append
theorem Mx:type_of% @Nat.add_zero:=@Nat.add_zero
theorem My:type_of% @Nat.mul_le_mul_right:=@Nat.mul_le_mul_right
theorem Mz:type_of% @Option.some_get:=@Option.some_get
theorem MA:type_of% @List.mem_map_of_mem:=@List.mem_map_of_mem
theorem MB:type_of% @List.take_length:=@List.take_length
theorem MC:type_of% @List.zipWith_cons_cons:=@List.zipWith_cons_cons
theorem MD:type_of% @List.map_map:=@List.map_map
theorem ME:type_of% @List.nodup_cons:=@List.nodup_cons
theorem MF:type_of% @Nat.min_eq_left:=@Nat.min_eq_left
theorem MG:type_of% @List.eq_nil_or_concat:=@List.eq_nil_or_concat
theorem MH:type_of% @List.concat_eq_append:=@List.concat_eq_append
theorem MI:type_of% @Array.getElem?_append_left:=@Array.getElem?_append_left
theorem MJ:type_of% @List.any_eq_false:=@List.any_eq_false
theorem MK:type_of% @decide_true:=@decide_true
theorem ML:type_of% @Option.getD_none:=@Option.getD_none
theorem MM:type_of% @UInt8.toNat_ofNat_of_lt':=@UInt8.toNat_ofNat_of_lt'
theorem MN:type_of% @List.any_eq_true:=@List.any_eq_true
theorem MO:type_of% @List.drop_succ_cons:=@List.drop_succ_cons
theorem MP:type_of% @beq_eq_false_iff_ne:=@beq_eq_false_iff_ne
theorem MQ:type_of% @decide_eq_false:=@decide_eq_false
theorem MR:type_of% @Option.map_none:=@Option.map_none
theorem MS:type_of% @List.mem_filter:=@List.mem_filter
theorem MU:type_of% @List.getElem?_set_self:=@List.getElem?_set_self
theorem MV:type_of% @of_decide_eq_true:=@of_decide_eq_true
theorem MW:type_of% @List.set_append_right:=@List.set_append_right
theorem MY:type_of% @List.map_nil:=@List.map_nil
theorem MZ:type_of% @Nat.sub_self:=@Nat.sub_self
theorem M1:type_of% @Bool.and_self:=@Bool.and_self
theorem M2:type_of% @Nat.add_assoc:=@Nat.add_assoc
theorem M3:type_of% @List.Sublist.append:=@List.Sublist.append
theorem M4:type_of% @List.flatten_append:=@List.flatten_append
theorem M5:type_of% @List.getElem_of_mem:=@List.getElem_of_mem
theorem M6:type_of% @List.dropWhile_cons:=@List.dropWhile_cons
theorem M7:type_of% @List.length_set:=@List.length_set
theorem M8:type_of% @Bool.or_self:=@Bool.or_self
theorem M9:type_of% @decide_false:=@decide_false
theorem M_:type_of% @Nat.zero_mul:=@Nat.zero_mul
theorem Na:type_of% @congrArg:=@congrArg
theorem Nb:type_of% @decide_eq_true:=@decide_eq_true
theorem Nc:type_of% @List.drop_zero:=@List.drop_zero
set_option linter.unusedSimpArgs false
set_option linter.unusedVariables false
open Go.RowKit
inductive DV where
 |int (k:IntKind) (n:Int)
 |bool (b:Bool)
 |str (s:List UInt8)
 |slice (rows:List (List DV))
 |agg (cs:List DV)
 |tup (cs:List DV)
 |ptr (cs:List DV)
 |fn (f:FuncId) (caps:List DV)
 |raw (v:Value)
 |map (ks vs:List DV)
 |err
 |any
mutual
def aJ (w:World) (M:Nat->Prop):DV->Value->Prop
 | .int k n,v=>v= .int k n
 | .bool b,v=>v= .bool b
 | .str s,v=>v= .string ⟨s.toArray⟩
 | .slice rows,v=>∃ a cap,v= .slice a rows.length cap/\rows.length<=cap/\(a=none->cap=0)/\
   (rows=[]\/∃ b o sz,a=some ⟨b,o,none⟩/\¬ M b/\b<w.heap.size/\aK w M rows b o sz)
 | .agg cs,v=>∃ vs:List Value,v= .agg vs.toArray/\(∀ x∈vs,x.oneCell'=true)/\an w M cs vs
 | .tup cs,v=>∃ vs:List Value,v= .tuple vs.toArray/\an w M cs vs
 | .ptr cs,v=>∃ b o,v= .pointer (some ⟨b,o,none⟩)/\¬ M b/\b<w.heap.size/\bj w M cs b o
 | .fn f caps,v=>∃ vs:List Value,v= .func (.func f) #[] vs.toArray/\an w M caps vs
 | .raw u,v=>v=u
 | .map _ _,_=>False
 | .err,v=>∃ t u,v= .iface t u
 | .any,_=>True
def an (w:World) (M:Nat->Prop):List DV->List Value->Prop
 |[],vs=>vs=[]
 |c::cs,vs=>∃ u us,vs=u::us/\aJ w M c u/\an w M cs us
def bj (w:World) (M:Nat->Prop):List DV->Nat->Nat->Prop
 |[],_,_=>True
 |c::cs,b,o=>(∃ v,w.cell? ⟨b,o,none⟩=some v/\v.oneCell'=true/\aJ w M c v)/\bj w M cs b (o+1)
def aK (w:World) (M:Nat->Prop):List (List DV)->Nat->Nat->Nat->Prop
 |[],_,_,_=>True
 |r::rs,b,o,sz=>r.length=sz/\bj w M r b o/\aK w M rs b (o+sz) sz
end
structure gh (w:World) (M:Nat->Prop) (w':World) (M':Nat->Prop):Prop where
 size:w.heap.size<=w'.heap.size
 keep:∀ b,b<w.heap.size->¬ M b->w'.heap[b]?=w.heap[b]?/\¬ M' b
theorem gh.cell {w w':World} {M M':Nat->Prop} (h:gh w M w' M') {b o:Nat} (hb:b<w.heap.size) (hm:¬ M b):
  w'.cell? ⟨b,o,none⟩=w.cell? ⟨b,o,none⟩:=by
 unfold World.cell?;simp only;rw[(h.keep b hb hm).1]
theorem gh.refl (w:World) (M:Nat->Prop):gh w M w M:=⟨K9 _,fun _ _ h=>⟨rfl,h⟩⟩
theorem gh.trans {w w' w'':World} {M M' M'':Nat->Prop} (h:gh w M w' M') (k:gh w' M' w'' M''):gh w M w'' M'':=
 ⟨LO h.size k.size,fun b hb hm=>by
  obtain⟨h1,h2⟩:=h.keep b hb hm
  obtain⟨k1,k2⟩:=k.keep b (Lz hb h.size) h2
  exact⟨k1.trans h1,k2⟩⟩
theorem gh.shrink {w:World} {M M':Nat->Prop} (h:∀ b,M' b->M b):gh w M w M':=
 ⟨K9 _,fun b _ hm=>⟨rfl,fun h'=>hm (h b h')⟩⟩
mutual
theorem aJ.ext {w w':World} {M M':Nat->Prop} (h:gh w M w' M'):∀ (d:DV) (v:Value),aJ w M d v->aJ w' M' d v
 | .int _ _,_,hr=>by unfold aJ at *;exact hr
 | .bool _,_,hr=>by unfold aJ at *;exact hr
 | .str _,_,hr=>by unfold aJ at *;exact hr
 | .slice rows,v,hr=>by
  unfold aJ at *
  obtain⟨a,cap,hv,hl,hn,hc⟩:=hr
  refine⟨a,cap,hv,hl,hn, ?_⟩
  rcases hc with hc|⟨b,o,sz,ha,hm,hb,hrows⟩
  ·exact .inl hc
  ·exact .inr ⟨b,o,sz,ha,(h.keep b hb hm).2,Lz hb h.size,aK.ext h rows b o sz hb hm hrows⟩
 | .agg cs,v,hr=>by
  unfold aJ at *
  obtain⟨vs,hv,h1,hl⟩:=hr
  exact⟨vs,hv,h1,an.ext h cs vs hl⟩
 | .tup cs,v,hr=>by
  unfold aJ at *
  obtain⟨vs,hv,hl⟩:=hr
  exact⟨vs,hv,an.ext h cs vs hl⟩
 | .ptr cs,v,hr=>by
  unfold aJ at *
  obtain⟨b,o,hv,hm,hb,hc⟩:=hr
  exact⟨b,o,hv,(h.keep b hb hm).2,Lz hb h.size,bj.ext h cs b o hb hm hc⟩
 | .fn _ caps,v,hr=>by
  unfold aJ at *
  obtain⟨vs,hv,hl⟩:=hr
  exact⟨vs,hv,an.ext h caps vs hl⟩
 | .raw _,_,hr=>by unfold aJ at *;exact hr
 | .map _ _,_,hr=>by unfold aJ at hr;exact hr.elim
 | .err,_,hr=>by unfold aJ at *;exact hr
 | .any,_,_=>by unfold aJ;trivial
theorem an.ext {w w':World} {M M':Nat->Prop} (h:gh w M w' M'):∀ (cs:List DV) (vs:List Value),an w M cs vs->an w' M' cs vs
 |[],_,hr=>by unfold an at *;exact hr
 |c::cs,vs,hr=>by
  unfold an at *
  obtain⟨u,us,hv,h1,h2⟩:=hr
  exact⟨u,us,hv,aJ.ext h c u h1,an.ext h cs us h2⟩
theorem bj.ext {w w':World} {M M':Nat->Prop} (h:gh w M w' M'):∀ (cs:List DV) (b o:Nat),b<w.heap.size->¬ M b->bj w M cs b o->bj w' M' cs b o
 |[],_,_,_,_,_=>by unfold bj;trivial
 |c::cs,b,o,hb,hm,hr=>by
  unfold bj at *
  obtain⟨⟨v,hv,h1,hc⟩,hrest⟩:=hr
  exact⟨⟨v,by rw[h.cell hb hm];exact hv,h1,aJ.ext h c v hc⟩,bj.ext h cs b (o+1) hb hm hrest⟩
theorem aK.ext {w w':World} {M M':Nat->Prop} (h:gh w M w' M'):∀ (rs:List (List DV)) (b o sz:Nat),b<w.heap.size->¬ M b->aK w M rs b o sz->aK w' M' rs b o sz
 |[],_,_,_,_,_,_=>by unfold aK;trivial
 |r::rs,b,o,sz,hb,hm,hr=>by
  unfold aK at *
  obtain⟨h1,h2,h3⟩:=hr
  exact⟨h1,bj.ext h r b o hb hm h2,aK.ext h rs b (o+sz) sz hb hm h3⟩
end
def iu (P:Program) (f:FuncId):Bool:=
 match P.funcs[f]? with
 |some fn=>fn.body.isSome&&fn.name != "runtime.NumGoroutine"
 |none=>false
inductive KK where
 |str
 |int (k:IntKind)
 |bool
 deriving DecidableEq
def KK.fits:KK->DV->Bool
 | .str,.str _=>true
 | .int k,.int k' _=>decide (k=k')
 | .bool,.bool _=>true
 |_,_=>false
def fy:DV->Option Value
 | .int k n=>some (.int k n)
 | .str s=>some (.string ⟨s.toArray⟩)
 | .bool b=>some (.bool b)
 |_=>none
inductive aL where
 |sh
 |sl (e:Nat) (ms:List aL)
 |pt (ms:List aL)
 |mp (kk:KK) (m:aL)
 |bld (T e:Nat)
def oo:Value->Option Nat
 | .pointer (some a)=>some a.block
 | .slice (some a) _ _=>some a.block
 | .map (some r)=>some r
 |_=>none
def ed (v:Value):List Nat:=(oo v).toList
def dX (R:List DV->List Value->List Nat->Prop):List (List DV)->List Value->List Nat->Prop
 |[],xs,G=>xs=[]/\G=[]
 |r::rs,xs,G=>∃ ys zs G1 G2,xs=ys++zs/\G=G1++G2/\R r ys G1/\dX R rs zs G2
def lE (R:DV->Value->List Nat->Prop) (kk:KK):List DV->List DV->List MapEntry->List Nat->Prop
 |[],ds,es,G=>ds=[]/\es=[]/\G=[]
 |k::ks,ds,es,G=>∃ d ds' e es' G1 G2,ds=d::ds'/\es=e::es'/\G=G1++G2/\kk.fits k=true/\fy k=some e.key/\R d e.val G1/\lE R kk ks ds' es' G2
def Bx (es:List MapEntry) (clock:Nat):Prop:=(∀ e∈es,e.born<clock)/\(es.map (·.born)).Nodup
def tL (w:World) (T e:Nat) (bs:List UInt8) (v:Value) (F:List Nat):Prop:=
 ∃ b p u,v= .pointer (some ⟨b,0,none⟩)/\w.heap[b]?=some (.cells #[p,u] T (0,0))/\(p= .pointer none\/p= .pointer (some ⟨b,0,none⟩))/\w.ownsRowF 0 e 1 u bs.length (Lib.byteCells bs)/\F=b::ed u
mutual
def dz (w:World) (M:Nat->Prop):aL->DV->Value->List Nat->Prop
 | .sh,d,v,F=>F=[]/\aJ w M d v
 | .sl e ms,d,v,F=>∃ rows xs G,d= .slice rows/\w.ownsRow 0 e ms.length v rows.length xs/\(∀ x∈xs,x.oneCell'=true)/\(∀ r∈rows,r.length=ms.length)/\
   dX (fun r ys G'=>dy w M ms r ys G') rows xs G/\F=ed v++G
 | .pt ms,d,v,F=>∃ cs b T vs G,d= .ptr cs/\v= .pointer (some ⟨b,0,none⟩)/\w.heap[b]?=some (.cells (List.toArray vs) T (0,0))/\(∀ x∈vs,x.oneCell'=true)/\dy w M ms cs vs G/\F=b::G
 | .mp kk m,d,v,F=>∃ ks ds r es clock G,d= .map ks ds/\v= .map (some r)/\w.heap[r]?=some (.map (List.toArray es) clock)/\Bx es clock/\lE (fun d' v' G'=>dz w M m d' v' G') kk ks ds es G/\F=r::G
 | .bld T e,d,v,F=>∃ bs,d= .str bs/\tL w T e bs v F
def dy (w:World) (M:Nat->Prop):List aL->List DV->List Value->List Nat->Prop
 |[],ds,vs,F=>ds=[]/\vs=[]/\F=[]
 |m::ms,ds,vs,F=>∃ d ds' v vs' F1 F2,ds=d::ds'/\vs=v::vs'/\F=F1++F2/\dz w M m d v F1/\dy w M ms ds' vs' F2
end
theorem dX.mono {R R':List DV->List Value->List Nat->Prop}:∀ {rows:List (List DV)} {xs:List Value} {G:List Nat},(∀ r ys G',(∀ b∈G',b∈G)->R r ys G'->R' r ys G')->dX R rows xs G->dX R' rows xs G
 |[],xs,G,_,h=>h
 |r::rs,xs,G,hR,h=>by
  obtain⟨ys,zs,G1,G2,h1,rfl,h3,h4⟩:=h
  exact⟨ys,zs,G1,G2,h1,rfl,hR r ys G1 (fun b hb=>by simp[hb]) h3,dX.mono (fun r ys G' hG=>hR r ys G' fun b hb=>by simp[hG b hb]) h4⟩
theorem lE.mono {R R':DV->Value->List Nat->Prop} {kk:KK}:∀ {ks ds:List DV} {es:List MapEntry} {G:List Nat},(∀ d v G',(∀ b∈G',b∈G)->R d v G'->R' d v G')->lE R kk ks ds es G->lE R' kk ks ds es G
 |[],ds,es,G,_,h=>h
 |k::ks,ds,es,G,hR,h=>by
  obtain⟨d,ds',e,es',G1,G2,h1,h2,rfl,h3,h4,h5,h6⟩:=h
  exact⟨d,ds',e,es',G1,G2,h1,h2,rfl,h3,h4,hR d e.val G1 (fun b hb=>by simp[hb]) h5,lE.mono (fun d v G' hG=>hR d v G' fun b hb=>by simp[hG b hb]) h6⟩
theorem oE {w w':World} {e sz n:Nat} {v:Value} {xs:List Value} (hk:∀ b∈ed v,w'.heap[b]?=w.heap[b]?) (h:w.ownsRow 0 e sz v n xs):w'.ownsRow 0 e sz v n xs:=by
 refine⟨h.1, ?_⟩
 rcases h.2 with h|⟨g,cap,cur,hv,hb,hg,rest⟩
 ·exact .inl h
 ·exact .inr ⟨g,cap,cur,hv,hb,by rw[hk g (by simp[ed,hv,oo])];exact hg,rest⟩
theorem yY {w w':World} {e sz n:Nat} {v:Value} {xs:List Value} (hk:∀ b∈ed v,w'.heap[b]?=w.heap[b]?) (h:w.ownsRowF 0 e sz v n xs):w'.ownsRowF 0 e sz v n xs:=by
 refine⟨h.1, ?_⟩
 rcases h.2 with h|⟨g,cap,cur,fz,hv,hb,hg,rest⟩
 ·exact .inl h
 ·exact .inr ⟨g,cap,cur,fz,hv,hb,by rw[hk g (by simp[ed,hv,oo])];exact hg,rest⟩
theorem tL.ext {w w':World} {T e:Nat} {bs:List UInt8} {v:Value} {F:List Nat} (hk:∀ b∈F,w'.heap[b]?=w.heap[b]?) (h:tL w T e bs v F):tL w' T e bs v F:=by
 obtain⟨b,p,u,h1,h2,h3,h4,rfl⟩:=h
 exact⟨b,p,u,h1,by rw[hk b oS];exact h2,h3,yY (fun b hb=>hk b (by simp[hb])) h4,rfl⟩
mutual
theorem dz.ext {w w':World} {M M':Nat->Prop} (h:gh w M w' M'):∀ (m:aL) (d:DV) (v:Value) (F:List Nat),(∀ b∈F,w'.heap[b]?=w.heap[b]?)->dz w M m d v F->dz w' M' m d v F
 | .sh,d,v,F,hk,hr=>by
  unfold dz at *
  exact⟨hr.1,hr.2.ext h⟩
 | .sl e ms,d,v,F,hk,hr=>by
  unfold dz at *
  obtain⟨rows,xs,G,hd,ho,h1,h2,h3,rfl⟩:=hr
  exact⟨rows,xs,G,hd,oE (fun b hb=>hk b (by simp[hb])) ho,h1,h2,dX.mono (fun r ys G' hG hr=>dy.ext h ms r ys G' (fun b hb=>hk b (by simp[hG b hb])) hr) h3,rfl⟩
 | .pt ms,d,v,F,hk,hr=>by
  unfold dz at *
  obtain⟨cs,b,T,vs,G,hd,hv,hh,h1,h2,rfl⟩:=hr
  exact⟨cs,b,T,vs,G,hd,hv,by rw[hk b oS];exact hh,h1,dy.ext h ms cs vs G (fun b hb=>hk b (by simp[hb])) h2,rfl⟩
 | .mp kk m,d,v,F,hk,hr=>by
  unfold dz at *
  obtain⟨ks,ds,r,es,clock,G,hd,hv,hh,hB,h1,rfl⟩:=hr
  exact⟨ks,ds,r,es,clock,G,hd,hv,by rw[hk r oS];exact hh,hB,lE.mono (fun d v G' hG hr=>dz.ext h m d v G' (fun b hb=>hk b (by simp[hG b hb])) hr) h1,rfl⟩
 | .bld T e,d,v,F,hk,hr=>by
  unfold dz at *
  obtain⟨bs,h1,h2⟩:=hr
  exact⟨bs,h1,h2.ext hk⟩
theorem dy.ext {w w':World} {M M':Nat->Prop} (h:gh w M w' M'):∀ (ms:List aL) (ds:List DV) (vs:List Value) (F:List Nat),(∀ b∈F,w'.heap[b]?=w.heap[b]?)->dy w M ms ds vs F->dy w' M' ms ds vs F
 |[],ds,vs,F,_,hr=>by unfold dy at *;exact hr
 |m::ms,ds,vs,F,hk,hr=>by
  unfold dy at *
  obtain⟨d,ds',v,vs',F1,F2,h1,h2,rfl,h3,h4⟩:=hr
  exact⟨d,ds',v,vs',F1,F2,h1,h2,rfl,dz.ext h m d v F1 (fun b hb=>hk b (by simp[hb])) h3,dy.ext h ms ds' vs' F2 (fun b hb=>hk b (by simp[hb])) h4⟩
end
end Go.Proofs.YtgmnipfafmphaaaGreatDoor

