/-
  My text.
-/
import Derived.Test.YteaolfcegaidpaaGreatDoorSYEngZz
import Derived.Maps.RangeRun
namespace Go.Proofs.YteaolfcegaidpaaGreatDoor
set_option linter.unusedSimpArgs false
set_option linter.unusedVariables false
open Go.RowKit
open Go.ChangeMaps (setBlock)
theorem BA {w:World} {M:Nat->Prop} {d:DV} {v:Value} (h:dD d=some v):aQ w M d v:=by
 cases d<;>simp[dD] at h<;>(subst h;unfold aQ;rfl)
theorem Gm {w:World} {M:Nat->Prop} {d:DV} {u v:Value} (h:dD d=some u) (hr:aQ w M d v):v=u:=by
 cases d<;>simp[dD] at h<;>(subst h;unfold aQ at hr;exact hr)
def Jx (p:DV×DV) (e:MapEntry):Prop:=dD p.1=some e.key/\dD p.2=some e.val
inductive xi:List (DV×DV)->List MapEntry->Prop
 |nil:xi [] []
 |cons {p e l es:_}:Jx p e->xi l es->xi (p::l) (e::es)
theorem Aa {w:World} {M:Nat->Prop} {κ:Nat->Value} {kk:KK}:∀ {l:List (DV×DV)} {es:List MapEntry} {F:List Nat},(∀ p∈l,(dD p.2).isSome=true)->bk w M κ kk (l.map fun p=>(p.1,.d p.2)) es F->xi l es/\F=[]
 |[],es,F,_,h=>by
  unfold bk at h;obtain⟨rfl,rfl⟩:=h;exact⟨.nil,rfl⟩
 |p::l,es,F,hv,h=>by
  simp only[OQ] at h
  unfold bk at h
  obtain⟨e,rest,F1,F2,rfl,rfl,h1,h2,h3,h4⟩:=h
  unfold aK at h3
  obtain⟨rfl,h3⟩:=h3
  obtain⟨h5,rfl⟩:=Aa (fun q hq=>hv q (by simp[hq])) h4
  obtain⟨u,hu⟩:=Pu.1 (hv p oS)
  unfold ae at h3
  refine⟨.cons ⟨h2, ?_⟩ h5,rfl⟩
  rw[Gm hu h3];exact hu
theorem E6:∀ {l:List (DV×DV)} {es:List MapEntry},xi l es->∃ z:List ((DV×DV)×MapEntry),z.map (·.1)=l/\z.map (·.2)=es/\∀ x∈z,Jx x.1 x.2
 |_,_,.nil=>⟨[],rfl,rfl,by simp⟩
 |p::l,e::es,.cons h hs=>by
  obtain⟨z,h1,h2,h3⟩:=E6 hs
  refine⟨(p,e)::z,by simp[h1],by simp[h2],fun x hx=> ?_⟩
  rcases ON.1 hx with rfl|hx
  ·exact h
  ·exact h3 x hx
theorem C9 {α:Type} {b:α->Nat} {x:α}:∀ {l:List α},(l.map b).Nodup->x∈l->l.Perm (x::l.filter fun y=>b y !=b x)
 |y::l,hn,hx=>by
  have hn':b y∉l.map b/\(l.map b).Nodup:=Qo.1 hn
  rcases ON.1 hx with rfl|hx
  ·have:l.filter (fun y=>b y !=b x)=l:=Qz.2 fun z hz=>by
    simp only[bne_iff_ne,ne_eq]
    intro he;exact hn'.1 (by rw[<-he];exact Pd.2 ⟨z,hz,rfl⟩)
   rw[List.filter_cons,P7 oS,this]
  ·have hne:b y≠b x:=fun he=>hn'.1 (by rw[he];exact Pd.2 ⟨x,hx,rfl⟩)
   rw[List.filter_cons,Qa (by simpa using hne)]
   exact((C9 hn'.2 hx).cons y).trans (List.Perm.swap _ _ _)
theorem mj {P:Program} {ops:Array Oper} {Q:Exit->Act->World->Prop} {o:Oper} {rest:List Oper} {a:Act} {w w':World} {v:Value} (hg:o.guard=none) (hrun:(execOp a.eval o).run P w= .ok (.value v) w') (hk:wpList P ops Q rest (a.put o.dst v) w'):wpList P ops Q (o::rest) a w:=
 wpList_plain hg fun K hK=>by
  unfold Oper.wp
  rw[hrun]
  exact hK _ _ hk
section
variable {c:Cx} {σ:St} {κ:Nat->Value} {φ:Nat->List Nat} {a:Act} {w:World}
structure N5 (c c1:Cx):Prop where
 n:c1.N=c.N
 gs:c1.gs=c.gs
 chg:yZ c.B c.A c.w0 c1.w0
 B:c.B<=c1.B
 M0:∀ b,c.M0 b->c1.M0 b
 A:∀ b,c1.A b->c.B<=b\/c.A b
theorem cE.back {c c1:Cx} (hs:N5 c c1) (h0:∀ b,c.M0 b->b<c.B/\¬ c.A b) (hr:cE c1 σ κ φ a w):cE c σ κ φ a w:=by
 have hsh:lL w (own c1 φ) w (own c φ):=lL.shrink fun b hb=>by
  rcases hb with hb|hb
  ·exact .inl (hs.M0 b hb)
  ·exact .inr hb
 refine⟨hs.chg.trans (hr.chg.mono hs.B fun b hb ha=> ?_),PA hs.B hr.size,h0,by rw[hr.ntmps,hs.n],hr.defers,hr.kok,fun i hi=> ?_,fun i v hv=> ?_,fun id=>(hr.chunks id).ext hsh fun _ _=>rfl,fun id b hb=>⟨(hr.mine id b hb).1, ?_⟩,hr.nod,hr.sep⟩
 ·rcases hs.A b ha with h|h
  ·omega
  ·exact h
 ·exact ae.ext hsh _ _ (hr.slots i (by rw[hs.n];exact hi))
 ·have:=hr.ghost i v (by rw[hs.gs];exact hv)
  rw[hs.n] at this
  exact ae.ext hsh _ _ this
 ·rcases(hr.mine id b hb).2 with h|h
  ·exact .inl (PA hs.B h)
  ·exact hs.A b h
def jU (c:Cx) (w:World) (M:Nat->Prop) (φ:Nat->List Nat) (hg:wY w) (hf:EB fun b=>∃ id,b∈φ id):Cx:=⟨w.heap.size,w,M,fun b=>∃ id,b∈φ id,c.N,c.gs,hg,hf,OH _⟩
theorem sm {w:World} {q b:Nat} {o:Obj} (h:b≠q):(setBlock w q o).heap[b]?=w.heap[b]?:=by
 simp[setBlock,Array.getElem?_setIfInBounds,Ne.symm h]
theorem E7 {w:World} {q:Nat} {o:Obj} (h:q<w.heap.size):(setBlock w q o).heap[q]?=some o:=by
 simp[setBlock,h]
theorem oY {w:World} {q:Nat} {o:Obj}:(setBlock w q o).heap.size=w.heap.size:=by simp[setBlock]
theorem cE.again {c1:Cx} (hr:cE c1 σ κ φ a w) {q:Nat} (hq:c1.M0 q) (hqt:∀ t∈I5,t.1≠q) {o:Obj} {w1:World} (hw:w1=w\/w1=w.drew):
  ∃ (hg:wY (setBlock w1 q o)) (hf:EB fun b=>∃ id,b∈φ id),cE (jU c1 (setBlock w1 q o) c1.M0 φ hg hf) σ κ φ a (setBlock w1 q o)/\yZ c1.B c1.A c1.w0 w/\w1.heap=w.heap/\w1.os=w.os/\w1.tape=w.tape/\w1.output=w.output:=by
 have hh:w1.heap=w.heap/\w1.os=w.os/\w1.tape=w.tape/\w1.output=w.output:=by rcases hw with rfl|rfl<;>exact⟨rfl,rfl,rfl,rfl⟩
 have hqlt:q<w.heap.size:=hr.own_lt (.inl hq)
 have hkeep:∀ b,b≠q->(setBlock w1 q o).heap[b]?=w.heap[b]?:=fun b hb=>by rw[sm hb,hh.1]
 have hsz:(setBlock w1 q o).heap.size=w.heap.size:=by rw[oY,hh.1]
 have hgood:wY (setBlock w1 q o):=fun t ht=>(hr.good t ht).keep (hkeep _ (hqt t ht))
 have hfree:EB fun b=>∃ id,b∈φ id:=fun t ht hb=>by
  obtain⟨id,hb⟩:=hb
  exact hr.free (id:=id) t ht hb
 have hown:own (jU c1 (setBlock w1 q o) c1.M0 φ hgood hfree) φ=own c1 φ:=rfl
 have hext:lL w (own c1 φ) (setBlock w1 q o) (own c1 φ):=⟨Nat.le_of_eq hsz.symm,fun b hb hm=>⟨hkeep b fun he=>hm (.inl (he▸hq)),hm⟩⟩
 have hmq:∀ id b,b∈φ id->b≠q:=fun id b hb he=>by
  subst he
  have h1:=hr.m0 b hq
  rcases(hr.mine id b hb).2 with h|h
  ·omega
  ·exact h1.2 h
 refine⟨hgood,hfree,⟨yZ.refl _ _ _,OH _,fun b hb=> ?_,hr.ntmps,hr.defers,hr.kok,fun i hi=> ?_,fun i v hv=> ?_,fun id=> ?_,fun id b hb=> ?_,hr.nod,hr.sep⟩,hr.chg,hh⟩
 ·have h1:=hr.m0 b hb
  have:=hr.size
  refine⟨by show b<(setBlock w1 q o).heap.size;rw[hsz];omega,fun⟨id,hid⟩=> ?_⟩
  rcases(hr.mine id b hid).2 with h|h
  ·omega
  ·exact h1.2 h
 ·rw[hown];exact ae.ext hext _ _ (hr.slots i hi)
 ·rw[hown];exact ae.ext hext _ _ (hr.ghost i v hv)
 ·rw[hown];exact(hr.chunks id).ext hext fun b hb=>hkeep b (hmq id b hb)
 ·exact⟨by rw[hsz];exact(hr.mine id b hb).1,.inr ⟨id,hb⟩⟩
end
def E8 (b1 b2:Nat) (J:St->Prop) (Q:AX->St->Prop):AX->St->Prop
 | .normal,σ=>∃ σ',dB σ σ'/\J σ'
 | .exit i,σ=>if i=b2 then∃ σ',dB σ σ'/\J σ' else if i=b1 then Q .normal σ else Q (.exit i) σ
 | .ret,σ=>Q .ret σ
section
variable {P:Program} {c:Cx} {σ:St} {κ:Nat->Value} {φ:Nat->List Nat} {a:Act} {w:World}
theorem uH {t:Operand} {i d:Nat} {o:Oper} {vs:List Value} {v:Value} (ho:o.op= .extract t i) (ht:a.eval t= .tuple vs.toArray) (hv:vs[i]?=some v):(execOp a.eval o).run P w= .ok (.value v) w:=by
 simp only[execOp,ho,ht,Instr.extract]
 simp[hv]
theorem D6 (hmix:P.follows .mixedOrders=true) {c:Cx} {R:Exit->Act->World->Prop} {Q:AX->St->Prop} (hp:Jl c Q R) (h0:∀ b,c.M0 b->b<c.B/\¬ c.A b)
  {d2 b1 dn df b2 de i2 i3:Nat} {sos:List SO} {body:SC} {o3:Array Oper} {on oe ox:Oper} {rest:List Oper} {bc:Code} {ty:TypeId}
  (hn1:on.guard=none) (hn2:on.dst=some dn) (hn3:on.op= .next (.tmp d2) false) (hx1:ox.guard=none) (hx2:ox.dst=some df) (hx3:ox.op= .extract (.tmp dn) 0)
  (he0:o3.toList=oe::rest) (he1:oe.guard=none) (he2:oe.dst=some de) (he3:oe.op= .entry (.tmp d2)) (hdn:dn<c.N) (hdf:df<c.N) (hde:de<c.N) (hd2:d2<c.N) (hne1:d2≠dn) (hne2:d2≠df) (hne3:dn≠df)
  (hmo:aY P c.N o3 rest sos=true) (hmb:c7 P c.N body bc=true) (hb12:b1≠b2)
  {r q clock:Nat} {es:List MapEntry} (hB:DI es clock) (hqt:∀ t∈I5,t.1≠q) (hqc:c.B<=q)
  (I:List (DV×DV)->St->Prop) (hI:∀ l σ,I l σ->σ.s d2= .d (.raw (.pointer (some ⟨q,0,none⟩)))/\σ.s dn= .d .any/\σ.s df= .d .any) (hperm:∀ l l' σ,l'.Perm l->I l σ->I l' σ)
  (hstep:∀ e l σ,I (e::l) σ->bh P (fun σ=>AW P body (E8 b1 b2 (I l) Q) σ) sos ⟨aH σ.s de (.d (.tup [e.1,e.2])),σ.h⟩)
  (hend:∀ σ,I [] σ->Q .normal σ):
  ∀ (n:Nat) (z:List ((DV×DV)×MapEntry)) (seen:Array Nat) (c0:Nat) (c1:Cx) (σ:St) (κ:Nat->Value) (φ:Nat->List Nat) (a:Act) (w:World),z.length<n->(∀ x∈z,Jx x.1 x.2)->(z.map (·.2))=es.filter (fun e=> !seen.contains e.born)->clock<=c0->
   N5 c c1->(r<c1.B/\¬ c1.A r)->c1.M0 q->I (z.map (·.1)) σ->cE c1 σ κ φ a w->w.heap[r]?=some (.map es.toArray clock)->w.heap[q]?=some (.mapIter (some r) clock seen c0)->
   Code.rounds P (.seq (.region i2 #[on,ox] false) (.seq (.cond (.tmp df) .skip (.exit b1)) (.block b2 (.seq (.region i3 o3 false) bc)))) (Exit.inBlock b1 R) n a w:=by
 intro n
 induction n with
 |zero=>intro z seen c0 c1 σ κ φ a w h;omega
 |succ n ih=>
  intro z seen c0 c1 σ κ φ a w hlt hz hzes hc0 hsub hMr hMq hIz hr hhr hhq
  rw[rounds_succ]
  have hN:c1.N=c.N:=hsub.n
  obtain⟨hs2,hsn,hsf⟩:=hI _ _ hIz
  have htd2:a.tmps.getD d2 undef= .pointer (some ⟨q,0,none⟩):=by
   have:=hr.slots d2 (by rw[hN];exact hd2)
   rw[hs2] at this
   unfold ae aQ at this;exact this
  have hrun:=run_next_at (P:=P) w on.type q r clock c0 seen es.toArray clock hhq hhr (fun x hx=>hB.1 x (by simpa using hx)) hc0
  have hleft:(leftOf es.toArray seen).toList=z.map (·.2):=by
   rw[hzes];unfold leftOf;simp
  refine wp_seq (wp_region_list ?_)
  show wpList P #[on,ox] _ [on,ox] a w
  rcases hrun with⟨h1,h2⟩|⟨e,he,w1,hw1,h2⟩
  ·
   have hz0:z=[]:=by
    have:(leftOf es.toArray seen).toList.length=0:=by simpa using h1
    rw[hleft,Px] at this
    exact List.eq_nil_of_length_eq_zero this
   subst hz0
   refine mj hn1 (v:= .tuple #[.bool false]) (w':=w) ?_ (mj hx1 (v:= .bool false) (w':=w) ?_ (wpList_nil ?_))
   ·simp only[execOp,hn3,Act.eval,htd2,Sem.run_bind,h2,Result.andThen];rfl
   ·refine uH (vs:=[.bool false]) (d:=0) hx3 ?_ rfl
    rw[hn2]
    simp only[Act.eval,Act.put,qu,hr.ntmps,hN,hdn,and_self,PR]
   ·rw[hn2,hx2]
    refine wp_seq (wp_cond_false (by simp only[Act.eval,Act.put,qu,Array.size_setIfInBounds,hr.ntmps,hN,hdf,and_self,PR]) (wp_exit ?_))
    have hr1:=(hr.putS (dst:=dn) (x:= .d .any) (v:= .tuple #[.bool false]) (by rw[hN];exact hdn) (by unfold ae aQ;trivial))
    have hr2:=(hr1.putS (dst:=df) (x:= .d .any) (v:= .bool false) (by rw[hN];exact hdf) (by unfold ae aQ;trivial))
    have hst:(⟨aH (aH σ.s dn (.d .any)) df (.d .any),σ.h⟩:St)=σ:=by
     have:aH (aH σ.s dn (.d .any)) df (.d .any)=σ.s:=by
      funext j;simp only[aH];split
      ·rename_i hj;subst hj;exact hsf.symm
      ·split
       ·rename_i hj;subst hj;exact hsn.symm
       ·rfl
     rw[this]
    have hr3:cE c1 σ κ φ ((a.put (some dn) (.tuple #[.bool false])).put (some df) (.bool false)) w:=by rw[<-hst];exact hr2
    simp only[Exit.then,Exit.inBlock,PR]
    exact hp.1 _ _ _ _ _ (hr3.back hsub h0) (hend _ hIz)
  ·
   obtain⟨x,hx,rfl⟩:=Pd.1 (hleft▸he)
   have hnod:(z.map fun x=>x.2.born).Nodup:=by
    have:(z.map fun x=>x.2.born)=(es.filter (fun e=> !seen.contains e.born)).map (·.born):=by rw[<-hzes,Qc];rfl
    rw[this]
    exact(List.filter_sublist.map _).nodup hB.2
   have hpm:=C9 (b:=fun y:(DV×DV)×MapEntry=>y.2.born) hnod hx
   have hI2:I (x.1::(z.filter fun y=>y.2.born !=x.2.born).map (·.1)) σ:=hperm _ _ _ (by simpa using(hpm.symm.map (·.1))) hIz
   have hlen:(z.filter fun y=>y.2.born !=x.2.born).length<n:=by
    have:=hpm.length_eq;simp at this;omega
   have hzes':(z.filter fun y=>y.2.born !=x.2.born).map (·.2)=es.filter fun e=> !(seen.push x.2.born).contains e.born:=by
    have h3:(z.filter fun y=>y.2.born !=x.2.born).map (·.2)=(z.map (·.2)).filter fun e=>e.born !=x.2.born:=by rw[List.filter_map];rfl
    rw[h3,hzes,List.filter_filter]
    refine List.filter_congr fun e _=> ?_
    simp only[Array.contains_push,Bool.not_or,bne]
    rw[Bool.and_comm]
   obtain⟨hg',hf',hr1,hchg,hheap⟩:=hr.again hMq hqt hw1 (o:= .mapIter (some r) clock (seen.push x.2.born) clock)
   have hqlt:q<w1.heap.size:=by rw[hheap.1];exact hr.own_lt (.inl hMq)
   have hrq:r≠q:=fun h=>by rw[h,hhq] at hhr;cases hhr
   have hrw2:r<w.heap.size:=O4 hMr.1 hr.size
   have hhq':(setBlock w1 q (.mapIter (some r) clock (seen.push x.2.born) clock)).heap[q]?=some (.mapIter (some r) clock (seen.push x.2.born) clock):=E7 hqlt
   have hhr':(setBlock w1 q (.mapIter (some r) clock (seen.push x.2.born) clock)).heap[r]?=some (.map es.toArray clock):=by rw[sm hrq,hheap.1];exact hhr
   generalize hw2:setBlock w1 q (.mapIter (some r) clock (seen.push x.2.born) clock)=w2 at *
   have hsub2:N5 c (jU c1 w2 c1.M0 φ hg' hf'):=by
    refine⟨hsub.n,hsub.gs, ?_, ?_,hsub.M0, ?_⟩
    ·refine(hsub.chg.trans (hchg.mono hsub.B fun b hb ha=> ?_)).trans ?_
     ·rcases hsub.A b ha with h|h
      ·omega
      ·exact h
     ·show yZ c.B c.A w w2
      rw[<-hw2]
      refine⟨hheap.2.1,hheap.2.2.1,hheap.2.2.2,by rw[oY,hheap.1];exact OH _,fun b hb _=> ?_⟩
      rw[sm oM,hheap.1]
    ·show c.B<=w2.heap.size
     rw[<-hw2,oY,hheap.1]
     exact PA hsub.B hr.size
    ·rintro b ⟨id,hb⟩
     rcases(hr.mine id b hb).2 with h|h
     ·exact .inl (PA hsub.B h)
     ·exact hsub.A b h
   have hrn1:=(hr1.putS (dst:=dn) (x:= .d .any) (v:= .tuple #[.bool true,x.2.key,x.2.val]) (by show dn<c1.N;rw[hN];exact hdn) (by unfold ae aQ;trivial))
   have hrn2:=(hrn1.putS (dst:=df) (x:= .d .any) (v:= .bool true) (by show df<c1.N;rw[hN];exact hdf) (by unfold ae aQ;trivial))
   have hst:(⟨aH (aH σ.s dn (.d .any)) df (.d .any),σ.h⟩:St)=σ:=by
    have:aH (aH σ.s dn (.d .any)) df (.d .any)=σ.s:=by
     funext j;simp only[aH];split
     ·rename_i hj;subst hj;exact hsf.symm
     ·split
      ·rename_i hj;subst hj;exact hsn.symm
      ·rfl
    rw[this]
   have hr3:cE (jU c1 w2 c1.M0 φ hg' hf') σ κ φ ((a.put (some dn) (.tuple #[.bool true,x.2.key,x.2.val])).put (some df) (.bool true)) w2:=by rw[<-hst];exact hrn2
   have hKr:r<(jU c1 w2 c1.M0 φ hg' hf').B/\¬ (jU c1 w2 c1.M0 φ hg' hf').A r:=by
    refine⟨by show r<w2.heap.size;rw[<-hw2,oY,hheap.1];exact hrw2,fun⟨id,hb⟩=> ?_⟩
    rcases(hr.mine id r hb).2 with h|h
    ·exact absurd hMr.1 (Nat.not_lt.2 h)
    ·exact hMr.2 h
   have key:∀ σ' κ' φ' a' w',cE (jU c1 w2 c1.M0 φ hg' hf') σ' κ' φ' a' w'->(∃ σ2,dB σ' σ2/\I ((z.filter fun y=>y.2.born !=x.2.born).map (·.1)) σ2)->
     Code.rounds P (.seq (.region i2 #[on,ox] false) (.seq (.cond (.tmp df) .skip (.exit b1)) (.block b2 (.seq (.region i3 o3 false) bc)))) (Exit.inBlock b1 R) n a' w':=by
    rintro σ' κ' φ' a' w' hr' ⟨σ2,himp,hI3⟩
    obtain⟨κ2,φ2,hr4⟩:=himp _ _ _ _ _ hr'
    have hkeep:∀ b,c1.M0 b->w'.heap[b]?=w2.heap[b]?:=fun b hb=>by
     have:=hr4.m0 b hb
     exact hr4.chg.block b this.1 this.2
    exact ih _ _ clock _ σ2 κ2 φ2 a' w' hlen (fun y hy=>hz y (Qf.1 hy).1) hzes' (OH _) hsub2 hKr hMq hI3 hr4 (by rw[hr4.chg.block r hKr.1 hKr.2];exact hhr') (by rw[hkeep q hMq];exact hhq')
   refine mj hn1 (v:= .tuple #[.bool true,x.2.key,x.2.val]) (w':=w2) ?_ (mj hx1 (v:= .bool true) (w':=w2) ?_ (wpList_nil ?_))
   ·simp only[execOp,hn3,Act.eval,htd2,Sem.run_bind,h2,Result.andThen];rfl
   ·refine uH (vs:=[.bool true,x.2.key,x.2.val]) (d:=0) hx3 ?_ rfl
    rw[hn2]
    simp only[Act.eval,Act.put,qu,hr.ntmps,hN,hdn,and_self,PR]
   rw[hn2,hx2]
   refine wp_seq (wp_cond_true (by simp only[Act.eval,Act.put,qu,Array.size_setIfInBounds,hr.ntmps,hN,hdf,and_self,PR]) (wp_skip ?_))
   refine wp_block (wp_seq (wp_region ?_))
   rw[Qr,<-Qw,he0,wpOps_eq_wpList (oe::rest) 0 (fun j=>by rw[<-he0];simp)]
   generalize ha2:(a.put (some dn) (.tuple #[.bool true,x.2.key,x.2.val])).put (some df) (.bool true)=a2 at hr3⊢
   have htd3:a2.tmps.getD d2 undef= .pointer (some ⟨q,0,none⟩):=by
    have:=hr3.slots d2 (by show d2<c1.N;rw[hN];exact hd2)
    rw[hs2] at this
    unfold ae aQ at this;exact this
   have hxe:x.2∈es:=(Qf.1 (hzes▸Pd.2 ⟨x,hx,rfl⟩)).1
   refine mj he1 (v:= .tuple #[x.2.key,x.2.val]) (w':=w2) ?_ ?_
   ·have hrun2:=run_entry_at (P:=P) w2 q r clock seen es.toArray clock x.2 hhq' hhr' (by simpa using hxe) (by simpa using hB.2)
    simp only[execOp,he3,Act.eval,htd3,Sem.run_bind]
    rw[hrun2];rfl
   rw[<-wpOps_eq_wpList rest 1 (fun j=>by
    have:o3.toList[1+j]?=rest[j]?:=by rw[he0,Nat.add_comm];simp
    rw[<-this];simp),he2]
   obtain⟨hk1,hk2⟩:=hz x hx
   have hr5:=hr3.putS (dst:=de) (x:= .d (.tup [x.1.1,x.1.2])) (v:= .tuple #[x.2.key,x.2.val]) (by show de<c1.N;rw[hN];exact hde) (by
    unfold ae aQ
    refine⟨[x.2.key,x.2.val],rfl, ?_⟩
    simp only[aI]
    exact⟨_,_,rfl,BA hk1,_,_,rfl,BA hk2,rfl⟩)
   refine wj (K:=fun σ=>AW P body (E8 b1 b2 (I ((z.filter fun y=>y.2.born !=x.2.born).map (·.1))) Q) σ) ?_ sos rest 1 _ κ φ _ w2 (fun j o hj=> ?_) (by show aY P c1.N o3 rest sos=true;rw[hN];exact hmo) hr5 (hstep _ _ _ hI2)
   ·intro σ' κ' φ' a' w' hr' hK
    refine hK hmix (jU c1 w2 c1.M0 φ hg' hf') bc _ (by show c7 P c1.N body bc=true;rw[hN];exact hmb) ⟨?_, ?_, ?_⟩ κ' φ' a' w' hr'
    ·intro σ2 κ2 φ2 a3 w3 hr6 hq6
     exact key _ _ _ _ _ hr6 hq6
    ·intro i σ2 κ2 φ2 a3 w3 hr6 hq6
     simp only[E8] at hq6
     simp only[Exit.inBlock,Exit.then]
     by_cases hi:i=b2
     ·simp only[hi,PR] at hq6⊢
      exact key _ _ _ _ _ hr6 hq6
     ·simp only[hi,Pp] at hq6⊢
      by_cases hj:i=b1
      ·simp only[hj,PR] at hq6⊢
       exact hp.1 _ _ _ _ _ (hr6.back hsub2 h0) hq6
      ·simp only[hj,Pp] at hq6⊢
       exact hp.2.1 _ _ _ _ _ _ (hr6.back hsub2 h0) hq6
    ·intro σ2 κ2 φ2 a3 w3 hr6 hq6
     exact hp.2.2 _ _ _ _ _ (hr6.back hsub2 h0) hq6
   ·have:o3.toList[1+j]?=rest[j]?:=by rw[he0,Nat.add_comm];simp
    rw[<-P3,this];exact hj
theorem Gn {d0:Nat} {op:Op} (h:DW P d0 op=true):∃ t k v,op= .range t (.tmp d0)/\P.underlying t=some (.map k v):=by
 unfold DW at h
 split at h
 ·simp only[Oz,OI] at h
  obtain⟨rfl,h⟩:=h
  split at h
  ·rename_i k v hu
   exact⟨_,k,v,rfl,hu⟩
  ·cases h
 ·cases h
theorem C_ {d:Nat} {op:Op} (h:Gf d op=true):op= .next (.tmp d) false:=by
 unfold Gf at h
 split at h
 ·simp only[OI] at h;subst h;rfl
 ·cases h
theorem Gp {d:Nat} {op:Op} (h:DX d op=true):op= .entry (.tmp d):=by
 unfold DX at h
 split at h
 ·simp only[OI] at h;subst h;rfl
 ·cases h
theorem Da {d:Nat} {op:Op} (h:Gg d op=true):op= .extract (.tmp d) 0:=by
 unfold Gg at h
 split at h
 ·simp only[OI] at h;subst h;rfl
 ·cases h
theorem wk {α:Type} {o:Option α} (h:o.isNone=true):o=none:=by cases o<;>first|rfl|cases h
theorem Gq {N d0 d2 dn df de b1 b2:Nat} {m:SX} {sos:List SO} {x:SC} {code:Code} (h:c7 P N (.rangeM d0 m d2 dn df de b1 b2 sos x) code=true):
  ∃ i1 o1 i2 o2 i3 o3 y,code= .seq (.region i1 o1 false) (.block b1 (.loop (.seq (.region i2 o2 false) (.seq (.cond (.tmp df) .skip (.exit b1)) (.block b2 (.seq (.region i3 o3 false) y))))))/\Jk P N d0 m d2 dn df de o1 o2 o3 sos=true/\b1≠b2/\c7 P N x y=true:=by
 unfold c7 at h
 split at h<;>first|(rename_i heq;cases heq;done)|(cases h;done)|skip
 rename_i i1 o1 c1 i2 o2 t c2 c3 i3 o3 y heq
 cases heq
 simp only[Oz,OI,OC] at h
 obtain⟨⟨⟨⟨⟨⟨hm,rfl⟩,rfl⟩,rfl⟩,rfl⟩,hb12⟩,hmb⟩:=h
 exact⟨i1,o1,i2,o2,i3,o3,y,rfl,hm,hb12,hmb⟩
theorem D7 {N:Nat} {ops:Array Oper} {o:Oper} {so:SO} (h:aY P N ops [o] [so]=true):lz P N ops o so=true:=by
 simpa[aY] using h
theorem HX {t:TypeId} {k v:TypeId} {d0 r clock:Nat} {o:Oper} {es:Array MapEntry} (ho:o.op= .range t (.tmp d0)) (hu:P.underlying t=some (.map k v)) (ht:a.tmps.getD d0 undef= .map (some r)) (hr:w.heap[r]?=some (.map es clock)):
  (execOp a.eval o).run P w= .ok (.value (.pointer (some ⟨w.heap.size,0,none⟩))) (w.alloc (.mapIter (some r) clock #[] clock)):=by
 simp only[execOp,ho,Act.eval,ht,Instr.range,Sem.run_bind,run_underlying hu,Result.andThen,getObj,Sem.run,hr]
 rfl
def rN {E S R:Type} (step:E->S->Option (S⊕(S⊕R))) (k:S->Option R):List E->S->Option R
 |[],s=>k s
 |e::l,s=>match step e s with
  |some (.inl s')=>rN step k l s'
  |some (.inr o)=>bX k o
  |none=>none
open Classical in
noncomputable def uI {E S R:Type} (l:List E) (step:E->S->Option (S⊕(S⊕R))) (s:S) (k:S->Option R):Option R:=
 if h:∃ r,∀ l':List E,l'.Perm l->rN step k l' s=some r then some h.choose else none
theorem Gr {E S R:Type} {l:List E} {step:E->S->Option (S⊕(S⊕R))} {s:S} {k:S->Option R} {r:R} (h:uI l step s k=some r):∀ l':List E,l'.Perm l->rN step k l' s=some r:=by
 unfold uI at h
 split at h
 ·rename_i hh
  simp only[Oy] at h
  subst h
  exact hh.choose_spec
 ·cases h
theorem HY {E S R:Type} {l:List E} {step:E->S->Option (S⊕(S⊕R))} {s:S} {k:S->Option R} {r:R} (h:∀ l':List E,l'.Perm l->rN step k l' s=some r):uI l step s k=some r:=by
 have hh:∃ r,∀ l':List E,l'.Perm l->rN step k l' s=some r:=⟨r,h⟩
 unfold uI
 rw[dif_pos hh]
 have h1:=hh.choose_spec l (List.Perm.refl _)
 rw[h l (List.Perm.refl _)] at h1
 simpa using h1.symm
theorem D8 {α β:Type} {g:α->β}:∀ {L' L:List β},L'.Perm L->∀ {l:List α},L=l.map g->∃ l':List α,l'.Perm l/\L'=l'.map g:=by
 intro L' L h
 induction h with
 |nil=>
  intro l hl
  have:l=[]:=by simpa using hl.symm
  subst this
  exact⟨[],.refl _,rfl⟩
 |cons x h ih=>
  intro l hl
  cases l with
  |nil=>cases hl
  |cons a l=>
   simp only[OQ,O7] at hl
   obtain⟨l',h1,h2⟩:=ih hl.2
   exact⟨a::l',h1.cons a,by simp[h2,hl.1]⟩
 |swap x y l0=>
  intro l hl
  cases l with
  |nil=>cases hl
  |cons a l=>cases l with
   |nil=>simp at hl
   |cons b l=>
    simp only[OQ,O7] at hl
    exact⟨b::a::l,List.Perm.swap _ _ _,by simp[hl.1,hl.2.1,hl.2.2]⟩
 |trans h1 h2 ih1 ih2=>
  intro l hl
  obtain⟨l2,p2,e2⟩:=ih2 hl
  obtain⟨l1,p1,e1⟩:=ih1 e2
  exact⟨l1,p1.trans p2,e1⟩
structure BB {V S R:Type} (P:Program) (x:SC) (Q:R->AX->St->Prop) (r:R) (b1 b2 d2 dn df de:Nat) (p:Value) (sos:List SO) (f:V->DV) (m:S->St) (step:List UInt8×V->S->Option (S⊕(S⊕R))) (k:S->Option R):Prop where
 hs:∀ s,(m s).s d2= .d (.raw p)/\(m s).s dn= .d .any/\(m s).s df= .d .any
 hq:∀ r,tv (Q r)
 hb:∀ e s o,step e s=some o->bh P (AW P x (lw b2 (yq m (Ed b1 m Q) o))) sos ⟨aH (m s).s de (.d (.tup [.str e.1,f e.2])),(m s).h⟩
 hk:∀ s,k s=some r->Q r .normal (m s)
theorem BB.of {V S R:Type} {x:SC} {Q:R->AX->St->Prop} {r:R} {b1 b2 d2 dn df de:Nat} {p:Value} {sos:List SO} {f:V->DV} {m m':S->St} {step:List UInt8×V->S->Option (S⊕(S⊕R))} {k:S->Option R} (hmk:m=m')
  (hs:∀ s,(m' s).s d2= .d (.raw p)/\(m' s).s dn= .d .any/\(m' s).s df= .d .any) (hq:∀ r,tv (Q r))
  (hb:∀ e s o,step e s=some o->bh P (AW P x (lw b2 (yq m' (Ed b1 m' Q) o))) sos ⟨aH (m' s).s de (.d (.tup [.str e.1,f e.2])),(m' s).h⟩)
  (hk:∀ s,k s=some r->Q r .normal (m' s)):BB P x Q r b1 b2 d2 dn df de p sos f m step k:=by
 subst hmk;exact⟨hs,hq,hb,hk⟩
theorem MF {V C S R:Type} {r:R} {d2 dn df de b1 b2:Nat} {sos:List SO} {x:SC} {Q:R->AX->St->Prop} {mk:C->S->St} {s0:S} {W:List (List UInt8×V)} {f:V->DV} {step:List UInt8×V->S->Option (S⊕(S⊕R))} {k:S->Option R} {σ0:St} {p:Value}
  (hm:uI W step s0 k=some r) (hr:∃ c M,mk c s0=M/\cN (dB σ0 M) (BB P x Q r b1 b2 d2 dn df de p sos f (mk c) step k)):
  ∃ I:List (DV×DV)->St->Prop,(∀ l σ,I l σ->σ.s d2= .d (.raw p)/\σ.s dn= .d .any/\σ.s df= .d .any)/\(∀ l l' σ,l'.Perm l->I l σ->I l' σ)/\
   (∀ e l σ,I (e::l) σ->bh P (fun σ=>AW P x (E8 b1 b2 (I l) (Q r)) σ) sos ⟨aH σ.s de (.d (.tup [e.1,e.2])),σ.h⟩)/\(∀ σ,I [] σ->Q r .normal σ)/\
   ∃ σ',dB σ0 σ'/\I (W.map fun e=>(.str e.1,f e.2)) σ':=by
 obtain⟨c,M,hM,himp,hB⟩:=hr
 subst hM
 refine⟨fun L' σ=>∃ l s,L'=l.map (fun e=>(.str e.1,f e.2))/\σ=mk c s/\∀ l':List (List UInt8×V),l'.Perm l->rN step k l' s=some r, ?_, ?_, ?_, ?_,_,himp,W,s0,rfl,rfl,Gr hm⟩
 ·rintro _ _ ⟨l,s,rfl,rfl,_⟩
  exact hB.hs s
 ·rintro L L' _ hp ⟨l,s,rfl,rfl,hl⟩
  obtain⟨l',h1,h2⟩:=D8 hp rfl
  exact⟨l',s,h2,rfl,fun q hq=>hl q (hq.trans h1)⟩
 ·rintro e L _ ⟨l,s,hL,rfl,hl⟩
  cases l with
  |nil=>cases hL
  |cons e0 l=>
   simp only[OQ,O7] at hL
   obtain⟨rfl,rfl⟩:=hL
   have hl0:∀ l':List (List UInt8×V),l'.Perm l->rN step k (e0::l') s=some r:=fun l' hp=>hl _ (hp.cons _)
   cases ho:step e0 s with
   |none=>have:=hl0 l (.refl _);simp[rN,ho] at this
   |some o=>
    refine wo (fun σ hσ=>Br (fun e σ' he=> ?_) hσ) (hB.hb e0 s o ho)
    have hnext:∀ s',o= .inl s'->∀ σ',dB σ' (mk c s')->∃ σ2,dB σ' σ2/\∃ l1 s,l.map (fun e=>(DV.str e.1,f e.2))=l1.map (fun e=>(.str e.1,f e.2))/\σ2=mk c s/\∀ l':List (List UInt8×V),l'.Perm l1->rN step k l' s=some r:=by
     rintro s' rfl σ' hi
     exact⟨_,hi,l,s',rfl,rfl,fun l' hp=>by have:=hl0 l' hp;simpa[rN,ho] using this⟩
    have hout:∀ q,o= .inr q->bX k q=some r:=by
     rintro q rfl
     have:=hl0 l (.refl _);simpa[rN,ho] using this
    cases o with
    |inl s'=>
     cases e with
     |normal=>exact hnext s' rfl _ he
     |ret=>exact he.elim
     |exit i=>
      simp only[lw] at he
      by_cases hi:i=b2
      ·simp only[hi,PR] at he
       simp only[E8,hi,PR]
       exact hnext s' rfl _ he
      ·simp only[hi,Pp] at he;exact he.elim
    |inr q=>
     have hk:=hout q rfl
     cases e with
     |normal=>exact he.elim
     |ret=>
      simp only[lw] at he
      cases q with
      |inl s'=>exact he.elim
      |inr r'=>simp only[bX,Oy] at hk;subst hk;exact he
     |exit i=>
      simp only[lw] at he
      by_cases hi:i=b2
      ·simp only[hi,PR] at he;exact he.elim
      ·simp only[hi,Pp] at he
       cases q with
       |inl s'=>
        obtain⟨rfl,hi2⟩:=he
        simp only[E8,hi,Pp,PR]
        exact hB.hq r _ _ _ hi2 (hB.hk s' hk)
       |inr r'=>
        simp only[bX,Oy] at hk;subst hk
        obtain⟨hne,he⟩:=he
        simp only[E8,hi,Pp,hne]
        exact he
 ·rintro _ ⟨l,s,hL,rfl,hl⟩
  have:l=[]:=by simpa using hL.symm
  subst this
  exact hB.hk s (by have:=hl [] (.refl _);simpa[rN] using this)
end
