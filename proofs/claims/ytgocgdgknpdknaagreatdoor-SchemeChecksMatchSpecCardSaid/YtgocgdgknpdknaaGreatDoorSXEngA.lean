/-
  My text.
-/
import Derived.KernelRfl
import Derived.Calls
import Derived.Orders
import Derived.Below
import Derived.WalkKit
import Derived.Lib.FrozenHead
namespace Go.Proofs.YtgocgdgknpdknaaGreatDoor
theorem oK {p:Prop} (h:p:=by kernel_rfl):p:=h
theorem oM {p:Prop} (h:p:=by omega):p:=h
theorem oS {p:Prop} (h:p:=by simp):p:=h
theorem oD {p:Prop} (h:p:=by decide):p:=h
theorem oT {p:Prop} (h:p:=by (simp;omega)):p:=h
theorem oA {p:Prop} (h:p:=by assumption):p:=h
theorem oL {p:Prop} (h:p:=by (simp only[List.length_cons,List.length_nil];omega)):p:=h
theorem JN:type_of% @Option.some.injEq:=@Option.some.injEq
theorem JO:type_of% @Bool.and_eq_true:=@Bool.and_eq_true
theorem JP:type_of% @Option.bind_some:=@Option.bind_some
theorem JQ:type_of% @Prod.mk.injEq:=@Prod.mk.injEq
theorem JR:type_of% @List.length_append:=@List.length_append
theorem JS:type_of% @decide_eq_true_eq:=@decide_eq_true_eq
theorem JT:type_of% @List.length_cons:=@List.length_cons
theorem JU:type_of% @List.mem_of_getElem?:=@List.mem_of_getElem?
theorem JV:type_of% @beq_iff_eq:=@beq_iff_eq
theorem JW:type_of% @Nat.le_refl:=@Nat.le_refl
theorem JX:type_of% @List.length_nil:=@List.length_nil
theorem JY:type_of% @List.getElem?_eq_some_iff:=@List.getElem?_eq_some_iff
theorem JZ:type_of% @List.map_cons:=@List.map_cons
theorem J0:type_of% @List.getElem?_eq_getElem:=@List.getElem?_eq_getElem
theorem J1:type_of% @cond_true:=@cond_true
theorem J2:type_of% @List.mem_cons:=@List.mem_cons
theorem J3:type_of% @Bool.not_true:=@Bool.not_true
theorem J4:type_of% @cond_false:=@cond_false
theorem J5:type_of% @List.cons_append:=@List.cons_append
theorem J6:type_of% @Bool.true_and:=@Bool.true_and
theorem J7:type_of% @List.length_eq_zero_iff:=@List.length_eq_zero_iff
theorem J8:type_of% @Bool.eq_iff_iff:=@Bool.eq_iff_iff
theorem J9:type_of% @Nat.lt_or_ge:=@Nat.lt_or_ge
theorem J_:type_of% @Bool.or_eq_true:=@Bool.or_eq_true
theorem Ka:type_of% @List.append_nil:=@List.append_nil
theorem Kb:type_of% @Nat.lt_of_lt_of_le:=@Nat.lt_of_lt_of_le
theorem Kc:type_of% @List.mem_append:=@List.mem_append
theorem Kd:type_of% @List.nil_append:=@List.nil_append
theorem Ke:type_of% @List.all_eq_true:=@List.all_eq_true
theorem Kf:type_of% @Nat.zero_le:=@Nat.zero_le
theorem Kg:type_of% @Bool.false_eq_true:=@Bool.false_eq_true
theorem Kh:type_of% @List.getElem?_map:=@List.getElem?_map
theorem Ki:type_of% @List.take_of_length_le:=@List.take_of_length_le
theorem Kj:type_of% @Bool.false_or:=@Bool.false_or
theorem Kl:type_of% @List.mem_of_mem_take:=@List.mem_of_mem_take
theorem Km:type_of% @List.cons.injEq:=@List.cons.injEq
theorem Kn:type_of% @Array.getElem?_eq_some_iff:=@Array.getElem?_eq_some_iff
theorem Ko:type_of% @List.length_take:=@List.length_take
theorem Kp:type_of% @decide_eq_false_iff_not:=@decide_eq_false_iff_not
theorem Kq:type_of% @List.getElem?_cons_succ:=@List.getElem?_cons_succ
theorem Kr:type_of% @Option.getD_some:=@Option.getD_some
theorem Ks:type_of% @List.mem_cons_self:=@List.mem_cons_self
theorem Kt:type_of% @Bool.not_false:=@Bool.not_false
theorem Ku:type_of% @Option.map_some:=@Option.map_some
theorem Kv:type_of% @List.flatten_cons:=@List.flatten_cons
theorem Kw:type_of% @List.mem_map:=@List.mem_map
theorem Kx:type_of% @List.take_length:=@List.take_length
theorem Ky:type_of% @List.mem_cons_of_mem:=@List.mem_cons_of_mem
theorem Kz:type_of% @Option.isSome_iff_exists:=@Option.isSome_iff_exists
theorem KA:type_of% @Array.toList_inj:=@Array.toList_inj
theorem KB:type_of% @List.take_append_drop:=@List.take_append_drop
theorem KC:type_of% @List.length_map:=@List.length_map
theorem KD:type_of% @List.not_mem_nil:=@List.not_mem_nil
theorem KE:type_of% @Bool.not_eq_true':=@Bool.not_eq_true'
theorem KF:type_of% @Nat.le_trans:=@Nat.le_trans
theorem KG:type_of% @if_false:=@if_false
theorem KH:type_of% @List.mem_of_mem_drop:=@List.mem_of_mem_drop
theorem KI:type_of% @List.getElem?_drop:=@List.getElem?_drop
theorem KJ:type_of% @Bool.and_eq_false_iff:=@Bool.and_eq_false_iff
theorem KL:type_of% @Int.le_refl:=@Int.le_refl
theorem KM:type_of% @List.append_assoc:=@List.append_assoc
theorem KN:type_of% @List.nodup_append:=@List.nodup_append
theorem KO:type_of% @List.mem_range:=@List.mem_range
theorem KP:type_of% @List.getElem?_take:=@List.getElem?_take
theorem KQ:type_of% @Nat.mul_le_mul_right:=@Nat.mul_le_mul_right
theorem KR:type_of% @Bool.or_eq_false_iff:=@Bool.or_eq_false_iff
theorem KS:type_of% @Option.getD_none:=@Option.getD_none
theorem KT:type_of% @Nat.add_mul:=@Nat.add_mul
theorem KU:type_of% @Array.getElem?_eq_getElem:=@Array.getElem?_eq_getElem
theorem KV:type_of% @List.flatMap_cons:=@List.flatMap_cons
theorem KW:type_of% @Nat.zero_add:=@Nat.zero_add
theorem KX:type_of% @List.map_nil:=@List.map_nil
theorem KY:type_of% @Array.getD_eq_getD_getElem?:=@Array.getD_eq_getD_getElem?
theorem KZ:type_of% @List.drop_of_length_le:=@List.drop_of_length_le
theorem K0:type_of% @List.length_drop:=@List.length_drop
theorem K1:type_of% @List.mem_singleton:=@List.mem_singleton
theorem K2:type_of% @List.drop_drop:=@List.drop_drop
theorem K3:type_of% @List.getElem?_cons_zero:=@List.getElem?_cons_zero
theorem K4:type_of% @if_true:=@if_true
theorem K5:type_of% @List.getElem?_append_right:=@List.getElem?_append_right
theorem K6:type_of% @List.length_singleton:=@List.length_singleton
theorem K7:type_of% @List.drop_eq_getElem_cons:=@List.drop_eq_getElem_cons
theorem K8:type_of% @List.nodup_cons:=@List.nodup_cons
theorem K9:type_of% @Int.toNat_natCast:=@Int.toNat_natCast
theorem K_:type_of% @List.map_congr_left:=@List.map_congr_left
theorem La:type_of% @List.flatMap_append:=@List.flatMap_append
theorem Lb:type_of% @decide_eq_true:=@decide_eq_true
theorem Lc:type_of% @Bool.not_eq_true:=@Bool.not_eq_true
theorem Ld:type_of% @List.any_eq_true:=@List.any_eq_true
theorem Le:type_of% @List.drop_length:=@List.drop_length
theorem Lf:type_of% @Bool.true_eq_false:=@Bool.true_eq_false
theorem Lg:type_of% @Nat.add_zero:=@Nat.add_zero
theorem Lh:type_of% @decide_false:=@decide_false
theorem Li:type_of% @Nat.add_sub_cancel:=@Nat.add_sub_cancel
theorem Lj:type_of% @decide_eq_false:=@decide_eq_false
theorem Lk:type_of% @List.all_cons:=@List.all_cons
theorem Ll:type_of% @if_pos:=@if_pos
theorem Lm:type_of% @List.getElem?_eq_none_iff:=@List.getElem?_eq_none_iff
theorem Ln:type_of% @List.contains_eq_mem:=@List.contains_eq_mem
theorem Lo:type_of% @decide_true:=@decide_true
theorem Lp:type_of% @Int.mul_add:=@Int.mul_add
theorem Lq:type_of% @List.flatMap_nil:=@List.flatMap_nil
theorem Lr:type_of% @List.take_succ_cons:=@List.take_succ_cons
theorem Lt:type_of% @List.zip_cons_cons:=@List.zip_cons_cons
theorem Lu:type_of% @Option.map_none:=@Option.map_none
theorem Lv:type_of% @List.mem_filter:=@List.mem_filter
theorem Lw:type_of% @List.Sublist.refl:=@List.Sublist.refl
theorem Lx:type_of% @Bool.false_and:=@Bool.false_and
theorem Ly:type_of% @List.map_map:=@List.map_map
theorem Lz:type_of% @Array.getElem?_modify:=@Array.getElem?_modify
theorem LA:type_of% @Bool.and_true:=@Bool.and_true
theorem LB:type_of% @Int.add_assoc:=@Int.add_assoc
theorem LC:type_of% @List.Sublist.append:=@List.Sublist.append
theorem LD:type_of% @List.flatten_append:=@List.flatten_append
theorem LE:type_of% @List.filter_eq_self:=@List.filter_eq_self
theorem LF:type_of% @beq_eq_false_iff_ne:=@beq_eq_false_iff_ne
theorem LG:type_of% @Nat.min_eq_left:=@Nat.min_eq_left
theorem LH:type_of% @List.map_append:=@List.map_append
theorem LI:type_of% @Option.some.inj:=@Option.some.inj
theorem LJ:type_of% @Int.pow_succ:=@Int.pow_succ
theorem LK:type_of% @Nat.sub_self:=@Nat.sub_self
set_option linter.unusedVariables false
open Go.RowKit
inductive DV where
 |int (k:IntKind) (n:Int)
 |bool (b:Bool)
 |str (s:List UInt8)
 |slice (rows:List (List DV))
 |agg (cs:List DV)
 |tup (cs:List DV)
 |ptr (cs:List DV)
 |fn (f:FuncId) (caps:List DV)
 |raw (v:Value)
 |map (ks vs:List DV)
 |err
 |any
def cC:DV->Option Value
 | .int k n=>some (.int k n)
 | .str s=>some (.string ⟨s.toArray⟩)
 | .bool b=>some (.bool b)
 |_=>none
def zw (es:List MapEntry) (clock:Nat):Prop:=(∀ e∈es,e.born<clock)/\(es.map (·.born)).Nodup
def lM:List DV->List DV->List MapEntry->Prop
 |[],[],[]=>True
 |k::ks,v::vs,e::es=>cC k=some e.key/\cC v=some e.val/\lM ks vs es
 |_,_,_=>False
mutual
def aD (w:World) (M:Nat->Prop):DV->Value->Prop
 | .int k n,v=>v= .int k n
 | .bool b,v=>v= .bool b
 | .str s,v=>v= .string ⟨s.toArray⟩
 | .slice rows,v=>∃ a cap,v= .slice a rows.length cap/\rows.length<=cap/\(a=none->cap=0)/\
   (rows=[]\/∃ b o sz,a=some ⟨b,o,none⟩/\¬ M b/\b<w.heap.size/\aE w M rows b o sz)
 | .agg cs,v=>∃ vs:List Value,v= .agg vs.toArray/\(∀ x∈vs,x.oneCell'=true)/\av w M cs vs
 | .tup cs,v=>∃ vs:List Value,v= .tuple vs.toArray/\av w M cs vs
 | .ptr cs,v=>∃ b o,v= .pointer (some ⟨b,o,none⟩)/\¬ M b/\b<w.heap.size/\aZ w M cs b o
 | .fn f caps,v=>∃ vs:List Value,v= .func (.func f) #[] vs.toArray/\av w M caps vs
 | .raw u,v=>v=u
 | .map ks vs,v=>∃ r,v= .map r/\((r=none/\ks=[]/\vs=[])\/∃ b es clock,r=some b/\¬ M b/\b<w.heap.size/\w.heap[b]?=some (.map (List.toArray es) clock)/\zw es clock/\lM ks vs es)
 | .err,v=>∃ t u,v= .iface t u
 | .any,_=>True
def av (w:World) (M:Nat->Prop):List DV->List Value->Prop
 |[],vs=>vs=[]
 |c::cs,vs=>∃ u us,vs=u::us/\aD w M c u/\av w M cs us
def aZ (w:World) (M:Nat->Prop):List DV->Nat->Nat->Prop
 |[],_,_=>True
 |c::cs,b,o=>(∃ v,w.cell? ⟨b,o,none⟩=some v/\v.oneCell'=true/\aD w M c v)/\aZ w M cs b (o+1)
def aE (w:World) (M:Nat->Prop):List (List DV)->Nat->Nat->Nat->Prop
 |[],_,_,_=>True
 |r::rs,b,o,sz=>r.length=sz/\aZ w M r b o/\aE w M rs b (o+sz) sz
end
structure kc (w:World) (M:Nat->Prop) (w':World) (M':Nat->Prop):Prop where
 size:w.heap.size<=w'.heap.size
 keep:∀ b,b<w.heap.size->¬ M b->w'.heap[b]?=w.heap[b]?/\¬ M' b
theorem kc.cell {w w':World} {M M':Nat->Prop} (h:kc w M w' M') {b o:Nat} (hb:b<w.heap.size) (hm:¬ M b):
  w'.cell? ⟨b,o,none⟩=w.cell? ⟨b,o,none⟩:=by
 unfold World.cell?;simp only;rw[(h.keep b hb hm).1]
theorem kc.shrink {w:World} {M M':Nat->Prop} (h:∀ b,M' b->M b):kc w M w M':=
 ⟨JW _,fun b _ hm=>⟨rfl,fun h'=>hm (h b h')⟩⟩
mutual
theorem aD.ext {w w':World} {M M':Nat->Prop} (h:kc w M w' M'):∀ (d:DV) (v:Value),aD w M d v->aD w' M' d v
 | .int _ _,_,hr=>by unfold aD at *;exact hr
 | .bool _,_,hr=>by unfold aD at *;exact hr
 | .str _,_,hr=>by unfold aD at *;exact hr
 | .slice rows,v,hr=>by
  unfold aD at *
  obtain⟨a,cap,hv,hl,hn,hc⟩:=hr
  refine⟨a,cap,hv,hl,hn, ?_⟩
  rcases hc with hc|⟨b,o,sz,ha,hm,hb,hrows⟩
  ·exact .inl hc
  ·exact .inr ⟨b,o,sz,ha,(h.keep b hb hm).2,Kb hb h.size,aE.ext h rows b o sz hb hm hrows⟩
 | .agg cs,v,hr=>by
  unfold aD at *
  obtain⟨vs,hv,h1,hl⟩:=hr
  exact⟨vs,hv,h1,av.ext h cs vs hl⟩
 | .tup cs,v,hr=>by
  unfold aD at *
  obtain⟨vs,hv,hl⟩:=hr
  exact⟨vs,hv,av.ext h cs vs hl⟩
 | .ptr cs,v,hr=>by
  unfold aD at *
  obtain⟨b,o,hv,hm,hb,hc⟩:=hr
  exact⟨b,o,hv,(h.keep b hb hm).2,Kb hb h.size,aZ.ext h cs b o hb hm hc⟩
 | .fn _ caps,v,hr=>by
  unfold aD at *
  obtain⟨vs,hv,hl⟩:=hr
  exact⟨vs,hv,av.ext h caps vs hl⟩
 | .raw _,_,hr=>by unfold aD at *;exact hr
 | .map _ _,_,hr=>by
  unfold aD at *
  obtain⟨r,hv,hc⟩:=hr
  refine⟨r,hv, ?_⟩
  rcases hc with hc|⟨b,es,clock,hb,hm,hlt,hh,h1,h2⟩
  ·exact .inl hc
  ·exact .inr ⟨b,es,clock,hb,(h.keep b hlt hm).2,Kb hlt h.size,by rw[(h.keep b hlt hm).1];exact hh,h1,h2⟩
 | .err,_,hr=>by unfold aD at *;exact hr
 | .any,_,_=>by unfold aD;trivial
theorem av.ext {w w':World} {M M':Nat->Prop} (h:kc w M w' M'):∀ (cs:List DV) (vs:List Value),av w M cs vs->av w' M' cs vs
 |[],_,hr=>by unfold av at *;exact hr
 |c::cs,vs,hr=>by
  unfold av at *
  obtain⟨u,us,hv,h1,h2⟩:=hr
  exact⟨u,us,hv,aD.ext h c u h1,av.ext h cs us h2⟩
theorem aZ.ext {w w':World} {M M':Nat->Prop} (h:kc w M w' M'):∀ (cs:List DV) (b o:Nat),b<w.heap.size->¬ M b->aZ w M cs b o->aZ w' M' cs b o
 |[],_,_,_,_,_=>by unfold aZ;trivial
 |c::cs,b,o,hb,hm,hr=>by
  unfold aZ at *
  obtain⟨⟨v,hv,h1,hc⟩,hrest⟩:=hr
  exact⟨⟨v,by rw[h.cell hb hm];exact hv,h1,aD.ext h c v hc⟩,aZ.ext h cs b (o+1) hb hm hrest⟩
theorem aE.ext {w w':World} {M M':Nat->Prop} (h:kc w M w' M'):∀ (rs:List (List DV)) (b o sz:Nat),b<w.heap.size->¬ M b->aE w M rs b o sz->aE w' M' rs b o sz
 |[],_,_,_,_,_,_=>by unfold aE;trivial
 |r::rs,b,o,sz,hb,hm,hr=>by
  unfold aE at *
  obtain⟨h1,h2,h3⟩:=hr
  exact⟨h1,aZ.ext h r b o hb hm h2,aE.ext h rs b (o+sz) sz hb hm h3⟩
end
def lN (P:Program) (f:FuncId):Bool:=
 match P.funcs[f]? with
 |some fn=>fn.body.isSome&&fn.name != "runtime.NumGoroutine"
 |none=>false
inductive KK where
 |str
 |int (k:IntKind)
 |bool
 deriving DecidableEq
def KK.fits:KK->DV->Bool
 | .str,.str _=>true
 | .int k,.int k' _=>decide (k=k')
 | .bool,.bool _=>true
 |_,_=>false
inductive bQ where
 |sh
 |sl (e:Nat) (ms:List bQ)
 |pt (ms:List bQ)
 |mp (kk:KK) (m:bQ)
 |bld (T e:Nat)
def k9:Value->Option Nat
 | .pointer (some a)=>some a.block
 | .slice (some a) _ _=>some a.block
 | .map (some r)=>some r
 |_=>none
def eD (v:Value):List Nat:=(k9 v).toList
def gc (R:List DV->List Value->List Nat->Prop):List (List DV)->List Value->List Nat->Prop
 |[],xs,G=>xs=[]/\G=[]
 |r::rs,xs,G=>∃ ys zs G1 G2,xs=ys++zs/\G=G1++G2/\R r ys G1/\gc R rs zs G2
def ne (R:DV->Value->List Nat->Prop) (kk:KK):List DV->List DV->List MapEntry->List Nat->Prop
 |[],ds,es,G=>ds=[]/\es=[]/\G=[]
 |k::ks,ds,es,G=>∃ d ds' e es' G1 G2,ds=d::ds'/\es=e::es'/\G=G1++G2/\kk.fits k=true/\cC k=some e.key/\R d e.val G1/\ne R kk ks ds' es' G2
def vI (w:World) (T e:Nat) (bs:List UInt8) (v:Value) (F:List Nat):Prop:=
 ∃ b p u,v= .pointer (some ⟨b,0,none⟩)/\w.heap[b]?=some (.cells #[p,u] T (0,0))/\(p= .pointer none\/p= .pointer (some ⟨b,0,none⟩))/\w.ownsRowF 0 e 1 u bs.length (Lib.byteCells bs)/\F=b::eD u
mutual
def ef (w:World) (M:Nat->Prop):bQ->DV->Value->List Nat->Prop
 | .sh,d,v,F=>F=[]/\aD w M d v
 | .sl e ms,d,v,F=>∃ rows xs G,d= .slice rows/\w.ownsRow 0 e ms.length v rows.length xs/\(∀ x∈xs,x.oneCell'=true)/\(∀ r∈rows,r.length=ms.length)/\
   gc (fun r ys G'=>fB w M ms r ys G') rows xs G/\F=eD v++G
 | .pt ms,d,v,F=>∃ cs b T vs G,d= .ptr cs/\v= .pointer (some ⟨b,0,none⟩)/\w.heap[b]?=some (.cells (List.toArray vs) T (0,0))/\(∀ x∈vs,x.oneCell'=true)/\fB w M ms cs vs G/\F=b::G
 | .mp kk m,d,v,F=>∃ ks ds r es clock G,d= .map ks ds/\v= .map (some r)/\w.heap[r]?=some (.map (List.toArray es) clock)/\zw es clock/\ne (fun d' v' G'=>ef w M m d' v' G') kk ks ds es G/\F=r::G
 | .bld T e,d,v,F=>∃ bs,d= .str bs/\vI w T e bs v F
def fB (w:World) (M:Nat->Prop):List bQ->List DV->List Value->List Nat->Prop
 |[],ds,vs,F=>ds=[]/\vs=[]/\F=[]
 |m::ms,ds,vs,F=>∃ d ds' v vs' F1 F2,ds=d::ds'/\vs=v::vs'/\F=F1++F2/\ef w M m d v F1/\fB w M ms ds' vs' F2
end
theorem gc.mono {R R':List DV->List Value->List Nat->Prop}:∀ {rows:List (List DV)} {xs:List Value} {G:List Nat},(∀ r ys G',(∀ b∈G',b∈G)->R r ys G'->R' r ys G')->gc R rows xs G->gc R' rows xs G
 |[],xs,G,_,h=>h
 |r::rs,xs,G,hR,h=>by
  obtain⟨ys,zs,G1,G2,h1,rfl,h3,h4⟩:=h
  exact⟨ys,zs,G1,G2,h1,rfl,hR r ys G1 (fun b hb=>by simp[hb]) h3,gc.mono (fun r ys G' hG=>hR r ys G' fun b hb=>by simp[hG b hb]) h4⟩
theorem ne.mono {R R':DV->Value->List Nat->Prop} {kk:KK}:∀ {ks ds:List DV} {es:List MapEntry} {G:List Nat},(∀ d v G',(∀ b∈G',b∈G)->R d v G'->R' d v G')->ne R kk ks ds es G->ne R' kk ks ds es G
 |[],ds,es,G,_,h=>h
 |k::ks,ds,es,G,hR,h=>by
  obtain⟨d,ds',e,es',G1,G2,h1,h2,rfl,h3,h4,h5,h6⟩:=h
  exact⟨d,ds',e,es',G1,G2,h1,h2,rfl,h3,h4,hR d e.val G1 (fun b hb=>by simp[hb]) h5,ne.mono (fun d v G' hG=>hR d v G' fun b hb=>by simp[hG b hb]) h6⟩
theorem qM {w w':World} {e sz n:Nat} {v:Value} {xs:List Value} (hk:∀ b∈eD v,w'.heap[b]?=w.heap[b]?) (h:w.ownsRow 0 e sz v n xs):w'.ownsRow 0 e sz v n xs:=by
 refine⟨h.1, ?_⟩
 rcases h.2 with h|⟨g,cap,cur,hv,hb,hg,rest⟩
 ·exact .inl h
 ·exact .inr ⟨g,cap,cur,hv,hb,by rw[hk g (by simp[eD,hv,k9])];exact hg,rest⟩
theorem mP {w w':World} {e sz n:Nat} {v:Value} {xs:List Value} (hk:∀ b∈eD v,w'.heap[b]?=w.heap[b]?) (h:w.ownsRowF 0 e sz v n xs):w'.ownsRowF 0 e sz v n xs:=by
 refine⟨h.1, ?_⟩
 rcases h.2 with h|⟨g,cap,cur,fz,hv,hb,hg,rest⟩
 ·exact .inl h
 ·exact .inr ⟨g,cap,cur,fz,hv,hb,by rw[hk g (by simp[eD,hv,k9])];exact hg,rest⟩
theorem vI.ext {w w':World} {T e:Nat} {bs:List UInt8} {v:Value} {F:List Nat} (hk:∀ b∈F,w'.heap[b]?=w.heap[b]?) (h:vI w T e bs v F):vI w' T e bs v F:=by
 obtain⟨b,p,u,h1,h2,h3,h4,rfl⟩:=h
 exact⟨b,p,u,h1,by rw[hk b oS];exact h2,h3,mP (fun b hb=>hk b (by simp[hb])) h4,rfl⟩
mutual
theorem ef.ext {w w':World} {M M':Nat->Prop} (h:kc w M w' M'):∀ (m:bQ) (d:DV) (v:Value) (F:List Nat),(∀ b∈F,w'.heap[b]?=w.heap[b]?)->ef w M m d v F->ef w' M' m d v F
 | .sh,d,v,F,hk,hr=>by
  unfold ef at *
  exact⟨hr.1,hr.2.ext h⟩
 | .sl e ms,d,v,F,hk,hr=>by
  unfold ef at *
  obtain⟨rows,xs,G,hd,ho,h1,h2,h3,rfl⟩:=hr
  exact⟨rows,xs,G,hd,qM (fun b hb=>hk b (by simp[hb])) ho,h1,h2,gc.mono (fun r ys G' hG hr=>fB.ext h ms r ys G' (fun b hb=>hk b (by simp[hG b hb])) hr) h3,rfl⟩
 | .pt ms,d,v,F,hk,hr=>by
  unfold ef at *
  obtain⟨cs,b,T,vs,G,hd,hv,hh,h1,h2,rfl⟩:=hr
  exact⟨cs,b,T,vs,G,hd,hv,by rw[hk b oS];exact hh,h1,fB.ext h ms cs vs G (fun b hb=>hk b (by simp[hb])) h2,rfl⟩
 | .mp kk m,d,v,F,hk,hr=>by
  unfold ef at *
  obtain⟨ks,ds,r,es,clock,G,hd,hv,hh,hB,h1,rfl⟩:=hr
  exact⟨ks,ds,r,es,clock,G,hd,hv,by rw[hk r oS];exact hh,hB,ne.mono (fun d v G' hG hr=>ef.ext h m d v G' (fun b hb=>hk b (by simp[hG b hb])) hr) h1,rfl⟩
 | .bld T e,d,v,F,hk,hr=>by
  unfold ef at *
  obtain⟨bs,h1,h2⟩:=hr
  exact⟨bs,h1,h2.ext hk⟩
theorem fB.ext {w w':World} {M M':Nat->Prop} (h:kc w M w' M'):∀ (ms:List bQ) (ds:List DV) (vs:List Value) (F:List Nat),(∀ b∈F,w'.heap[b]?=w.heap[b]?)->fB w M ms ds vs F->fB w' M' ms ds vs F
 |[],ds,vs,F,_,hr=>by unfold fB at *;exact hr
 |m::ms,ds,vs,F,hk,hr=>by
  unfold fB at *
  obtain⟨d,ds',v,vs',F1,F2,h1,h2,rfl,h3,h4⟩:=hr
  exact⟨d,ds',v,vs',F1,F2,h1,h2,rfl,ef.ext h m d v F1 (fun b hb=>hk b (by simp[hb])) h3,fB.ext h ms ds' vs' F2 (fun b hb=>hk b (by simp[hb])) h4⟩
end
