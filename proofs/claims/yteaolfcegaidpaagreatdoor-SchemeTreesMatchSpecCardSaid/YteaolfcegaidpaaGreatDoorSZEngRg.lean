/-
  My text.
-/
import Derived.Test.YteaolfcegaidpaaGreatDoorSZEngZz
import Derived.Maps.RangeRun
namespace Go.Proofs.YteaolfcegaidpaaGreatDoor
set_option linter.unusedSimpArgs false
set_option linter.unusedVariables false
open Go.RowKit
open Go.ChangeMaps (setBlock)
variable {C:Nat} {E:Type} {M:Nat->Prop} {N:Nat} {R S:Type} {T:List Oper} {V:Type} {b1 b2:Nat} {c c1:Cx} {d d0 d2 de df dn:Nat} {o:Oper} {op:Op} {ops:Array Oper} {p:Value} {q r:Nat} {sos:List SO} {v:Value} {w:World} {x:SC} {α:Type} {Q:R->AX->St->Prop} {f:V->DV} {k:S->Option R} {l:List E} {s:S} {step:List UInt8×V->S->Option (S⊕(S⊕R))}
theorem DB {d:DV} (h:dq d=some v):ba w M d v:=by
 cases d<;>simp[dq] at h<;>(subst h;unfold ba;rfl)
theorem I8 {d:DV} {u:Value} (h:dq d=some u) (hr:ba w M d v):v=u:=by
 cases d<;>simp[dq] at h<;>(subst h;unfold ba at hr;exact hr)
def Mv (p:DV×DV) (e:MapEntry):Prop:=dq p.1=some e.key/\dq p.2=some e.val
inductive y9:List (DV×DV)->List MapEntry->Prop
 |nil:y9 [] []
 |cons {p e l es:_}:Mv p e->y9 l es->y9 (p::l) (e::es)
theorem B6 {w:World} {M:Nat->Prop} {κ:Nat->Value} {kk:KK}:∀ {l:List (DV×DV)} {es:List MapEntry} {F:List Nat},(∀ p∈l,(dq p.2).isSome=true)->bH w M κ kk (l.map fun p=>(p.1,.d p.2)) es F->y9 l es/\F=[]
 |[],es,F,_,h=>by
  unfold bH at h;obtain⟨rfl,rfl⟩:=h;exact⟨.nil,rfl⟩
 |p::l,es,F,hv,h=>by
  simp only[S5] at h
  unfold bH at h
  obtain⟨e,T,z,I,rfl,rfl,h1,h2,E,h4⟩:=h
  unfold aQ at E
  obtain⟨rfl,E⟩:=E
  obtain⟨h5,rfl⟩:=B6 (fun q hq=>hv q (by simp[hq])) h4
  obtain⟨u,hu⟩:=TX.1 (hv p oS)
  unfold ah at E
  refine⟨.cons ⟨h2, ?_⟩ h5,rfl⟩
  rw[I8 hu E];exact hu
theorem HQ:∀ {l:List (DV×DV)} {es:List MapEntry},y9 l es->∃ z:List ((DV×DV)×MapEntry),z.map (·.1)=l/\z.map (·.2)=es/\∀ x∈z,Mv x.1 x.2
 |_,_,.nil=>⟨[],rfl,rfl,by simp⟩
 |p::l,e::es,.cons h hs=>by
  obtain⟨z,h1,h2,E⟩:=HQ hs
  refine⟨(p,e)::z,by simp[h1],by simp[h2],fun x hx=> ?_⟩
  rcases S9.1 hx with rfl|hx
  ·exact h
  ·exact E x hx
theorem Fx {α:Type} {b:α->Nat} {x:α}:∀ {l:List α},(l.map b).Nodup->x∈l->l.Perm (x::l.filter fun y=>b y !=b x)
 |y::l,hn,hx=>by
  have C:b y∉l.map b/\(l.map b).Nodup:=UQ.1 hn
  rcases S9.1 hx with rfl|hx
  ·have:l.filter (fun y=>b y !=b x)=l:=U6.2 fun z hz=>by
    simp only[bne_iff_ne,ne_eq]
    intro J;exact C.1 (by rw[<-J];exact Tu.2 ⟨z,hz,rfl⟩)
   rw[List.filter_cons,Ul oS,this]
  ·have A:b y≠b x:=fun J=>C.1 (by rw[J];exact Tu.2 ⟨x,hx,rfl⟩)
   rw[List.filter_cons,Ub (by simpa using A)]
   exact((Fx C.2 hx).cons y).trans (List.Perm.swap _ _ _)
theorem mM {P:Program} {Q:Exit->Act->World->Prop} {a:Act} {w':World} (hg:o.guard=none) (F:(execOp a.eval o).run P w= .ok (.value v) w') (hk:wpList P ops Q T (a.put o.dst v) w'):wpList P ops Q (o::T) a w:=
 wpList_plain hg fun K hK=>by
  unfold Oper.wp
  rw[F]
  exact hK _ _ hk
section
variable {c:Cx} {σ:St} {κ:Nat->Value} {φ:Nat->List Nat} {a:Act} {w:World}
structure R9 (c c1:Cx):Prop where
 n:c1.N=c.N
 gs:c1.gs=c.gs
 chg:AK c.B c.A c.w0 c1.w0
 B:c.B<=c1.B
 M0:∀ b,c.M0 b->c1.M0 b
 A:∀ b,c1.A b->c.B<=b\/c.A b
theorem cH.back (hs:R9 c c1) (h0:∀ b,c.M0 b->b<c.B/\¬ c.A b) (hr:cH c1 σ κ φ a w):cH c σ κ φ a w:=by
 have l:lA w (own c1 φ) w (own c φ):=lA.shrink fun b hb=>by
  rcases hb with hb|hb
  ·exact .inl (hs.M0 b hb)
  ·exact .inr hb
 refine⟨hs.chg.trans (hr.chg.mono hs.B fun b hb ha=> ?_),TT hs.B hr.size,h0,by rw[hr.ntmps,hs.n],hr.defers,hr.kok,fun i hi=> ?_,fun i v hv=> ?_,fun id=>(hr.chunks id).ext l fun _ _=>rfl,fun id b hb=>⟨(hr.mine id b hb).1, ?_⟩,hr.nod,hr.sep⟩
 ·rcases hs.A b ha with h|h
  ·omega
  ·exact h
 ·exact ah.ext l _ _ (hr.slots i (by rw[hs.n];exact hi))
 ·have:=hr.ghost i v (by rw[hs.gs];exact hv)
  rw[hs.n] at this
  exact ah.ext l _ _ this
 ·rcases(hr.mine id b hb).2 with h|h
  ·exact .inl (TT hs.B h)
  ·exact hs.A b h
def kl (c:Cx) (w:World) (M:Nat->Prop) (φ:Nat->List Nat) (hg:y0 w) (hf:Hk fun b=>∃ id,b∈φ id):Cx:=⟨w.heap.size,w,M,fun b=>∃ id,b∈φ id,c.N,c.gs,hg,hf,S0 _⟩
theorem ug {b:Nat} {o:Obj} (h:b≠q):(setBlock w q o).heap[b]?=w.heap[b]?:=by
 simp[setBlock,Array.getElem?_setIfInBounds,Ne.symm h]
theorem HR {o:Obj} (h:q<w.heap.size):(setBlock w q o).heap[q]?=some o:=by
 simp[setBlock,h]
theorem pB {o:Obj}:(setBlock w q o).heap.size=w.heap.size:=by simp[setBlock]
theorem cH.again (hr:cH c1 σ κ φ a w) (hq:c1.M0 q) (v9:∀ t∈L3,t.1≠q) {o:Obj} {w1:World} (G:w1=w\/w1=w.drew):
  ∃ (hg:y0 (setBlock w1 q o)) (hf:Hk fun b=>∃ id,b∈φ id),cH (kl c1 (setBlock w1 q o) c1.M0 φ hg hf) σ κ φ a (setBlock w1 q o)/\AK c1.B c1.A c1.w0 w/\w1.heap=w.heap/\w1.os=w.os/\w1.tape=w.tape/\w1.output=w.output:=by
 have hh:w1.heap=w.heap/\w1.os=w.os/\w1.tape=w.tape/\w1.output=w.output:=by rcases G with rfl|rfl<;>exact⟨rfl,rfl,rfl,rfl⟩
 have u8:q<w.heap.size:=hr.own_lt (.inl hq)
 have m:∀ b,b≠q->(setBlock w1 q o).heap[b]?=w.heap[b]?:=fun b hb=>by rw[ug hb,hh.1]
 have I:(setBlock w1 q o).heap.size=w.heap.size:=by rw[pB,hh.1]
 have k:y0 (setBlock w1 q o):=fun t Y=>(hr.good t Y).keep (m _ (v9 t Y))
 have n:Hk fun b=>∃ id,b∈φ id:=fun t Y hb=>by
  obtain⟨id,hb⟩:=hb
  exact hr.free (id:=id) t Y hb
 have h7:own (kl c1 (setBlock w1 q o) c1.M0 φ k n) φ=own c1 φ:=rfl
 have N:lA w (own c1 φ) (setBlock w1 q o) (own c1 φ):=⟨Nat.le_of_eq I.symm,fun b hb Z=>⟨m b fun J=>Z (.inl (J▸hq)),Z⟩⟩
 have d:∀ id b,b∈φ id->b≠q:=fun id b hb J=>by
  subst J
  have h1:=hr.m0 b hq
  rcases(hr.mine id b hb).2 with h|h
  ·omega
  ·exact h1.2 h
 refine⟨k,n,⟨AK.refl _ _ _,S0 _,fun b hb=> ?_,hr.ntmps,hr.defers,hr.kok,fun i hi=> ?_,fun i v hv=> ?_,fun id=> ?_,fun id b hb=> ?_,hr.nod,hr.sep⟩,hr.chg,hh⟩
 ·have h1:=hr.m0 b hb
  have:=hr.size
  refine⟨by show b<(setBlock w1 q o).heap.size;rw[I];omega,fun⟨id,hid⟩=> ?_⟩
  rcases(hr.mine id b hid).2 with h|h
  ·omega
  ·exact h1.2 h
 ·rw[h7];exact ah.ext N _ _ (hr.slots i hi)
 ·rw[h7];exact ah.ext N _ _ (hr.ghost i v hv)
 ·rw[h7];exact(hr.chunks id).ext N fun b hb=>m b (d id b hb)
 ·exact⟨by rw[I];exact(hr.mine id b hb).1,.inr ⟨id,hb⟩⟩
end
def HS (b1 b2:Nat) (J:St->Prop) (Q:AX->St->Prop):AX->St->Prop
 | .normal,σ=>∃ X,cS σ X/\J X
 | .exit i,σ=>if i=b2 then∃ X,cS σ X/\J X else if i=b1 then Q .normal σ else Q (.exit i) σ
 | .ret,σ=>Q .ret σ
section
variable {P:Program} {c:Cx} {σ:St} {κ:Nat->Value} {φ:Nat->List Nat} {a:Act} {w:World}
theorem wV {t:Operand} {i d:Nat} {vs:List Value} (ho:o.op= .extract t i) (Y:a.eval t= .tuple vs.toArray) (hv:vs[i]?=some v):(execOp a.eval o).run P w= .ok (.value v) w:=by
 simp only[execOp,ho,Y,Instr.extract]
 simp[hv]
theorem GJ (D:P.follows .mixedOrders=true) {R:Exit->Act->World->Prop} {Q:AX->St->Prop} (hp:Mj c Q R) (h0:∀ b,c.M0 b->b<c.B/\¬ c.A b) {i2 i3:Nat} {body:SC} {o3:Array Oper} {on oe ox:Oper} {bc:Code} {ty:TypeId} (s4:on.guard=none) (r0:on.dst=some dn) (u7:on.op= .next (.tmp d2) false) (s5:ox.guard=none) (s8:ox.dst=some df) (u9:ox.op= .extract (.tmp dn) 0) (A:o3.toList=oe::T) (u1:oe.guard=none) (w0:oe.dst=some de) (w4:oe.op= .entry (.tmp d2)) (s6:dn<c.N) (r7:df<c.N) (v0:de<c.N) (G:d2<c.N) (v4:d2≠dn) (v5:d2≠df) (v6:dn≠df) (u0:bh P c.N o3 T sos=true) (v1:cT P c.N body bc=true) (s7:b1≠b2) {es:List MapEntry} (hB:Gd es C) (v9:∀ t∈L3,t.1≠q) (qm:c.B<=q) (I:List (DV×DV)->St->Prop) (hI:∀ l σ,I l σ->σ.s d2= .d (.raw (.pointer (some ⟨q,0,none⟩)))/\σ.s dn= .d .any/\σ.s df= .d .any) (r9:∀ l l' σ,l'.Perm l->I l σ->I l' σ) (h7:∀ e l σ,I (e::l) σ->a6 P (fun σ=>AW P body (HS b1 b2 (I l) Q) σ) sos ⟨aD σ.s de (.d (.tup [e.1,e.2])),σ.h⟩) (r8:∀ σ,I [] σ->Q .normal σ):
  ∀ (n:Nat) (z:List ((DV×DV)×MapEntry)) (seen:Array Nat) (H:Nat) (c1:Cx) (σ:St) (κ:Nat->Value) (φ:Nat->List Nat) (a:Act) (w:World),z.length<n->(∀ x∈z,Mv x.1 x.2)->(z.map (·.2))=es.filter (fun e=> !seen.contains e.born)->C<=H->
   R9 c c1->(r<c1.B/\¬ c1.A r)->c1.M0 q->I (z.map (·.1)) σ->cH c1 σ κ φ a w->w.heap[r]?=some (.map es.toArray C)->w.heap[q]?=some (.mapIter (some r) C seen H)->
   Code.rounds P (.seq (.region i2 #[on,ox] false) (.seq (.cond (.tmp df) .skip (.exit b1)) (.block b2 (.seq (.region i3 o3 false) bc)))) (Exit.inBlock b1 R) n a w:=by
 intro n
 induction n with
 |zero=>intro z seen H c1 σ κ φ a w h;omega
 |succ n ih=>
  intro z seen H c1 σ κ φ a w h9 hz Y r3 f w5 u6 w6 hr V qb
  rw[rounds_succ]
  have S:c1.N=c.N:=f.n
  obtain⟨s3,L,v3⟩:=hI _ _ w6
  have u2:a.tmps.getD d2 undef= .pointer (some ⟨q,0,none⟩):=by
   have:=hr.slots d2 (by rw[S];exact G)
   rw[s3] at this
   unfold ah ba at this;exact this
  have F:=run_next_at (P:=P) w on.type q r C H seen es.toArray C qb V (fun x hx=>hB.1 x (by simpa using hx)) r3
  have r6:(leftOf es.toArray seen).toList=z.map (·.2):=by
   rw[Y];unfold leftOf;simp
  refine wp_seq (wp_region_list ?_)
  show wpList P #[on,ox] _ [on,ox] a w
  rcases F with⟨h1,h2⟩|⟨e,J,w1,w7,h2⟩
  ·
   have N:z=[]:=by
    have:(leftOf es.toArray seen).toList.length=0:=by simpa using h1
    rw[r6,TO] at this
    exact List.eq_nil_of_length_eq_zero this
   subst N
   refine mM s4 (v:= .tuple #[.bool false]) (w':=w) ?_ (mM s5 (v:= .bool false) (w':=w) ?_ (wpList_nil ?_))
   ·simp only[execOp,u7,Act.eval,u2,Sem.run_bind,h2,Result.andThen];rfl
   ·refine wV (vs:=[.bool false]) (d:=0) u9 ?_ rfl
    rw[r0]
    simp only[Act.eval,Act.put,rX,hr.ntmps,S,s6,and_self,T6]
   ·rw[r0,s8]
    refine wp_seq (wp_cond_false (by simp only[Act.eval,Act.put,rX,Array.size_setIfInBounds,hr.ntmps,S,r7,and_self,T6]) (wp_exit ?_))
    have O:=(hr.putS (dst:=dn) (x:= .d .any) (v:= .tuple #[.bool false]) (by rw[S];exact s6) (by unfold ah ba;trivial))
    have s2:=(O.putS (dst:=df) (x:= .d .any) (v:= .bool false) (by rw[S];exact r7) (by unfold ah ba;trivial))
    have u3:(⟨aD (aD σ.s dn (.d .any)) df (.d .any),σ.h⟩:St)=σ:=by
     have:aD (aD σ.s dn (.d .any)) df (.d .any)=σ.s:=by
      funext j;simp only[aD];split
      ·rename_i hj;subst hj;exact v3.symm
      ·split
       ·rename_i hj;subst hj;exact L.symm
       ·rfl
     rw[this]
    have r5:cH c1 σ κ φ ((a.put (some dn) (.tuple #[.bool false])).put (some df) (.bool false)) w:=by rw[<-u3];exact s2
    simp only[Exit.then,Exit.inBlock,T6]
    exact hp.1 _ _ _ _ _ (r5.back f h0) (r8 _ w6)
  ·
   obtain⟨x,hx,rfl⟩:=Tu.1 (r6▸J)
   have r4:(z.map fun x=>x.2.born).Nodup:=by
    have:(z.map fun x=>x.2.born)=(es.filter (fun e=> !seen.contains e.born)).map (·.born):=by rw[<-Y,UD];rfl
    rw[this]
    exact(List.filter_sublist.map _).nodup hB.2
   have h5:=Fx (b:=fun y:(DV×DV)×MapEntry=>y.2.born) r4 hx
   have qh:I (x.1::(z.filter fun y=>y.2.born !=x.2.born).map (·.1)) σ:=r9 _ _ _ (by simpa using(h5.symm.map (·.1))) w6
   have h8:(z.filter fun y=>y.2.born !=x.2.born).length<n:=by
    have:=h5.length_eq;simp at this;omega
   have w8:(z.filter fun y=>y.2.born !=x.2.born).map (·.2)=es.filter fun e=> !(seen.push x.2.born).contains e.born:=by
    have E:(z.filter fun y=>y.2.born !=x.2.born).map (·.2)=(z.map (·.2)).filter fun e=>e.born !=x.2.born:=by rw[List.filter_map];rfl
    rw[E,Y,List.filter_filter]
    refine List.filter_congr fun e _=> ?_
    simp only[Array.contains_push,Bool.not_or,bne]
    rw[Bool.and_comm]
   obtain⟨B,Z,O,k,u⟩:=hr.again u6 v9 w7 (o:= .mapIter (some r) C (seen.push x.2.born) C)
   have u8:q<w1.heap.size:=by rw[u.1];exact hr.own_lt (.inl u6)
   have qi:r≠q:=fun h=>by rw[h,qb] at V;cases V
   have qc:r<w.heap.size:=Tt w5.1 hr.size
   have v7:(setBlock w1 q (.mapIter (some r) C (seen.push x.2.born) C)).heap[q]?=some (.mapIter (some r) C (seen.push x.2.born) C):=HR u8
   have v8:(setBlock w1 q (.mapIter (some r) C (seen.push x.2.born) C)).heap[r]?=some (.map es.toArray C):=by rw[ug qi,u.1];exact V
   generalize u5:setBlock w1 q (.mapIter (some r) C (seen.push x.2.born) C)=g at *
   have M:R9 c (kl c1 g c1.M0 φ B Z):=by
    refine⟨f.n,f.gs, ?_, ?_,f.M0, ?_⟩
    ·refine(f.chg.trans (k.mono f.B fun b hb ha=> ?_)).trans ?_
     ·rcases f.A b ha with h|h
      ·omega
      ·exact h
     ·show AK c.B c.A w g
      rw[<-u5]
      refine⟨u.2.1,u.2.2.1,u.2.2.2,by rw[pB,u.1];exact S0 _,fun b hb _=> ?_⟩
      rw[ug oM,u.1]
    ·show c.B<=g.heap.size
     rw[<-u5,pB,u.1]
     exact TT f.B hr.size
    ·rintro b ⟨id,hb⟩
     rcases(hr.mine id b hb).2 with h|h
     ·exact .inl (TT f.B h)
     ·exact f.A b h
   have qd:=(O.putS (dst:=dn) (x:= .d .any) (v:= .tuple #[.bool true,x.2.key,x.2.val]) (by show dn<c1.N;rw[S];exact s6) (by unfold ah ba;trivial))
   have qe:=(qd.putS (dst:=df) (x:= .d .any) (v:= .bool true) (by show df<c1.N;rw[S];exact r7) (by unfold ah ba;trivial))
   have u3:(⟨aD (aD σ.s dn (.d .any)) df (.d .any),σ.h⟩:St)=σ:=by
    have:aD (aD σ.s dn (.d .any)) df (.d .any)=σ.s:=by
     funext j;simp only[aD];split
     ·rename_i hj;subst hj;exact v3.symm
     ·split
      ·rename_i hj;subst hj;exact L.symm
      ·rfl
    rw[this]
   have r5:cH (kl c1 g c1.M0 φ B Z) σ κ φ ((a.put (some dn) (.tuple #[.bool true,x.2.key,x.2.val])).put (some df) (.bool true)) g:=by rw[<-u3];exact qe
   have w9:r<(kl c1 g c1.M0 φ B Z).B/\¬ (kl c1 g c1.M0 φ B Z).A r:=by
    refine⟨by show r<g.heap.size;rw[<-u5,pB,u.1];exact qc,fun⟨id,hb⟩=> ?_⟩
    rcases(hr.mine id r hb).2 with h|h
    ·exact absurd w5.1 (Nat.not_lt.2 h)
    ·exact w5.2 h
   have key:∀ X W h6 a' w',cH (kl c1 g c1.M0 φ B Z) X W h6 a' w'->(∃ h4,cS X h4/\I ((z.filter fun y=>y.2.born !=x.2.born).map (·.1)) h4)->
     Code.rounds P (.seq (.region i2 #[on,ox] false) (.seq (.cond (.tmp df) .skip (.exit b1)) (.block b2 (.seq (.region i3 o3 false) bc)))) (Exit.inBlock b1 R) n a' w':=by
    rintro X W h6 a' w' r1 ⟨h4,r2,qj⟩
    obtain⟨u4,s9,s0⟩:=r2 _ _ _ _ _ r1
    have m:∀ b,c1.M0 b->w'.heap[b]?=g.heap[b]?:=fun b hb=>by
     have:=s0.m0 b hb
     exact s0.chg.block b this.1 this.2
    exact ih _ _ C _ h4 u4 s9 a' w' h8 (fun y hy=>hz y (UE.1 hy).1) w8 (S0 _) M w9 u6 qj s0 (by rw[s0.chg.block r w9.1 w9.2];exact v8) (by rw[m q u6];exact v7)
   refine mM s4 (v:= .tuple #[.bool true,x.2.key,x.2.val]) (w':=g) ?_ (mM s5 (v:= .bool true) (w':=g) ?_ (wpList_nil ?_))
   ·simp only[execOp,u7,Act.eval,u2,Sem.run_bind,h2,Result.andThen];rfl
   ·refine wV (vs:=[.bool true,x.2.key,x.2.val]) (d:=0) u9 ?_ rfl
    rw[r0]
    simp only[Act.eval,Act.put,rX,hr.ntmps,S,s6,and_self,T6]
   rw[r0,s8]
   refine wp_seq (wp_cond_true (by simp only[Act.eval,Act.put,rX,Array.size_setIfInBounds,hr.ntmps,S,r7,and_self,T6]) (wp_skip ?_))
   refine wp_block (wp_seq (wp_region ?_))
   rw[UX,<-U3,A,wpOps_eq_wpList (oe::T) 0 (fun j=>by rw[<-A];simp)]
   generalize qk:(a.put (some dn) (.tuple #[.bool true,x.2.key,x.2.val])).put (some df) (.bool true)=a2 at r5⊢
   have qf:a2.tmps.getD d2 undef= .pointer (some ⟨q,0,none⟩):=by
    have:=r5.slots d2 (by show d2<c1.N;rw[S];exact G)
    rw[s3] at this
    unfold ah ba at this;exact this
   have U:x.2∈es:=(UE.1 (Y▸Tu.2 ⟨x,hx,rfl⟩)).1
   refine mM u1 (v:= .tuple #[x.2.key,x.2.val]) (w':=g) ?_ ?_
   ·have qa:=run_entry_at (P:=P) g q r C seen es.toArray C x.2 v7 v8 (by simpa using U) (by simpa using hB.2)
    simp only[execOp,w4,Act.eval,qf,Sem.run_bind]
    rw[qa];rfl
   rw[<-wpOps_eq_wpList T 1 (fun j=>by
    have:o3.toList[1+j]?=T[j]?:=by rw[A,Nat.add_comm];simp
    rw[<-this];simp),w0]
   obtain⟨ql,qg⟩:=hz x hx
   have v2:=r5.putS (dst:=de) (x:= .d (.tup [x.1.1,x.1.2])) (v:= .tuple #[x.2.key,x.2.val]) (by show de<c1.N;rw[S];exact v0) (by
    unfold ah ba
    refine⟨[x.2.key,x.2.val],rfl, ?_⟩
    simp only[aN]
    exact⟨_,_,rfl,DB ql,_,_,rfl,DB qg,rfl⟩)
   refine yo (K:=fun σ=>AW P body (HS b1 b2 (I ((z.filter fun y=>y.2.born !=x.2.born).map (·.1))) Q) σ) ?_ sos T 1 _ κ φ _ g (fun j o hj=> ?_) (by show bh P c1.N o3 T sos=true;rw[S];exact u0) v2 (h7 _ _ _ qh)
   ·intro X W h6 a' w' r1 hK
    refine hK D (kl c1 g c1.M0 φ B Z) bc _ (by show cT P c1.N body bc=true;rw[S];exact v1) ⟨?_, ?_, ?_⟩ W h6 a' w' r1
    ·intro h4 u4 s9 a3 p s1 s
     exact key _ _ _ _ _ s1 s
    ·intro i h4 u4 s9 a3 p s1 s
     simp only[HS] at s
     simp only[Exit.inBlock,Exit.then]
     by_cases hi:i=b2
     ·simp only[hi,T6] at s⊢
      exact key _ _ _ _ _ s1 s
     ·simp only[hi,Tv] at s⊢
      by_cases hj:i=b1
      ·simp only[hj,T6] at s⊢
       exact hp.1 _ _ _ _ _ (s1.back M h0) s
      ·simp only[hj,Tv] at s⊢
       exact hp.2.1 _ _ _ _ _ _ (s1.back M h0) s
    ·intro h4 u4 s9 a3 p s1 s
     exact hp.2.2 _ _ _ _ _ (s1.back M h0) s
   ·have:o3.toList[1+j]?=T[j]?:=by rw[A,Nat.add_comm];simp
    rw[<-Uv,this];exact hj
theorem I9 (h:Gr P d0 op=true):∃ t k v,op= .range t (.tmp d0)/\P.underlying t=some (.map k v):=by
 unfold Gr at h
 split at h
 ·simp only[SR,S1] at h
  obtain⟨rfl,h⟩:=h
  split at h
  ·rename_i k v hu
   exact⟨_,k,v,rfl,hu⟩
  ·cases h
 ·cases h
theorem Fy (h:I1 d op=true):op= .next (.tmp d) false:=by
 unfold I1 at h
 split at h
 ·simp only[S1] at h;subst h;rfl
 ·cases h
theorem I_ (h:Gs d op=true):op= .entry (.tmp d):=by
 unfold Gs at h
 split at h
 ·simp only[S1] at h;subst h;rfl
 ·cases h
theorem Fz (h:I2 d op=true):op= .extract (.tmp d) 0:=by
 unfold I2 at h
 split at h
 ·simp only[S1] at h;subst h;rfl
 ·cases h
theorem yp {o:Option α} (h:o.isNone=true):o=none:=by cases o<;>first|rfl|cases h
theorem Ja {m:SX} {g:Code} (h:cT P N (.rangeM d0 m d2 dn df de b1 b2 sos x) g=true):
  ∃ n o1 i2 o2 i3 o3 y,g= .seq (.region n o1 false) (.block b1 (.loop (.seq (.region i2 o2 false) (.seq (.cond (.tmp df) .skip (.exit b1)) (.block b2 (.seq (.region i3 o3 false) y))))))/\Mi P N d0 m d2 dn df de o1 o2 o3 sos=true/\b1≠b2/\cT P N x y=true:=by
 unfold cT at h
 split at h<;>first|(rename_i B;cases B;done)|(cases h;done)|skip
 rename_i n o1 c1 i2 o2 t z u i3 o3 y B
 cases B
 simp only[SR,S1,SU] at h
 obtain⟨⟨⟨⟨⟨⟨Z,rfl⟩,rfl⟩,rfl⟩,rfl⟩,s7⟩,v1⟩:=h
 exact⟨n,o1,i2,o2,i3,o3,y,rfl,Z,s7,v1⟩
theorem GK {so:SO} (h:bh P N ops [o] [so]=true):l6 P N ops o so=true:=by
 simpa[bh] using h
theorem K2 {t k v:TypeId} {es:Array MapEntry} (ho:o.op= .range t (.tmp d0)) (hu:P.underlying t=some (.map k v)) (Y:a.tmps.getD d0 undef= .map (some r)) (hr:w.heap[r]?=some (.map es C)):
  (execOp a.eval o).run P w= .ok (.value (.pointer (some ⟨w.heap.size,0,none⟩))) (w.alloc (.mapIter (some r) C #[] C)):=by
 simp only[execOp,ho,Act.eval,Y,Instr.range,Sem.run_bind,run_underlying hu,Result.andThen,getObj,Sem.run,hr]
 rfl
def tB {E S R:Type} (step:E->S->Option (S⊕(S⊕R))) (k:S->Option R):List E->S->Option R
 |[],s=>k s
 |e::l,s=>match step e s with
  |some (.inl F)=>tB step k l F
  |some (.inr o)=>bX k o
  |none=>none
open Classical in
noncomputable def wW (l:List E) (step:E->S->Option (S⊕(S⊕R))) (s:S) (k:S->Option R):Option R:=
 if h:∃ r,∀ l':List E,l'.Perm l->tB step k l' s=some r then some h.choose else none
theorem Jb {step:E->S->Option (S⊕(S⊕R))} {r:R} (h:wW l step s k=some r):∀ l':List E,l'.Perm l->tB step k l' s=some r:=by
 unfold wW at h
 split at h
 ·rename_i hh
  simp only[SN] at h
  subst h
  exact hh.choose_spec
 ·cases h
theorem K3 {step:E->S->Option (S⊕(S⊕R))} {r:R} (h:∀ l':List E,l'.Perm l->tB step k l' s=some r):wW l step s k=some r:=by
 have hh:∃ r,∀ l':List E,l'.Perm l->tB step k l' s=some r:=⟨r,h⟩
 unfold wW
 rw[dif_pos hh]
 have h1:=hh.choose_spec l (List.Perm.refl _)
 rw[h l (List.Perm.refl _)] at h1
 simpa using h1.symm
theorem GL {β:Type} {g:α->β}:∀ {j L:List β},j.Perm L->∀ {l:List α},L=l.map g->∃ l':List α,l'.Perm l/\j=l'.map g:=by
 intro j L h
 induction h with
 |nil=>
  intro l hl
  have:l=[]:=by simpa using hl.symm
  subst this
  exact⟨[],.refl _,rfl⟩
 |cons x h ih=>
  intro l hl
  cases l with
  |nil=>cases hl
  |cons a l=>
   simp only[S5,TA] at hl
   obtain⟨l',h1,h2⟩:=ih hl.2
   exact⟨a::l',h1.cons a,by simp[h2,hl.1]⟩
 |swap x y e=>
  intro l hl
  cases l with
  |nil=>cases hl
  |cons a l=>cases l with
   |nil=>simp at hl
   |cons b l=>
    simp only[S5,TA] at hl
    exact⟨b::a::l,List.Perm.swap _ _ _,by simp[hl.1,hl.2.1,hl.2.2]⟩
 |trans h1 h2 f i=>
  intro l hl
  obtain⟨l2,C,e2⟩:=i hl
  obtain⟨Y,d,e1⟩:=f e2
  exact⟨Y,d.trans C,e1⟩
structure DC {V S R:Type} (P:Program) (x:SC) (Q:R->AX->St->Prop) (r:R) (b1 b2 d2 dn df de:Nat) (p:Value) (sos:List SO) (f:V->DV) (m:S->St) (step:List UInt8×V->S->Option (S⊕(S⊕R))) (k:S->Option R):Prop where
 hs:∀ s,(m s).s d2= .d (.raw p)/\(m s).s dn= .d .any/\(m s).s df= .d .any
 hq:∀ r,vr (Q r)
 hb:∀ e s o,step e s=some o->a6 P (AW P x (ke b2 (Aa m (GQ b1 m Q) o))) sos ⟨aD (m s).s de (.d (.tup [.str e.1,f e.2])),(m s).h⟩
 hk:∀ s,k s=some r->Q r .normal (m s)
theorem DC.of {r:R} {m m':S->St} (r8:m=m') (hs:∀ s,(m' s).s d2= .d (.raw p)/\(m' s).s dn= .d .any/\(m' s).s df= .d .any) (hq:∀ r,vr (Q r)) (hb:∀ e s o,step e s=some o->a6 P (AW P x (ke b2 (Aa m' (GQ b1 m' Q) o))) sos ⟨aD (m' s).s de (.d (.tup [.str e.1,f e.2])),(m' s).h⟩) (hk:∀ s,k s=some r->Q r .normal (m' s)):DC P x Q r b1 b2 d2 dn df de p sos f m step k:=by
 subst r8;exact⟨hs,hq,hb,hk⟩
theorem Qd {C:Type} {r:R} {mk:C->S->St} {s0:S} {W:List (List UInt8×V)} {h:St} (Z:wW W step s0 k=some r) (hr:∃ c M,mk c s0=M/\cc (cS h M) (DC P x Q r b1 b2 d2 dn df de p sos f (mk c) step k)):
  ∃ I:List (DV×DV)->St->Prop,(∀ l σ,I l σ->σ.s d2= .d (.raw p)/\σ.s dn= .d .any/\σ.s df= .d .any)/\(∀ l l' σ,l'.Perm l->I l σ->I l' σ)/\
   (∀ e l σ,I (e::l) σ->a6 P (fun σ=>AW P x (HS b1 b2 (I l) (Q r)) σ) sos ⟨aD σ.s de (.d (.tup [e.1,e.2])),σ.h⟩)/\(∀ σ,I [] σ->Q r .normal σ)/\
   ∃ X,cS h X/\I (W.map fun e=>(.str e.1,f e.2)) X:=by
 obtain⟨c,M,hM,r2,hB⟩:=hr
 subst hM
 refine⟨fun j σ=>∃ l s,j=l.map (fun e=>(.str e.1,f e.2))/\σ=mk c s/\∀ l':List (List UInt8×V),l'.Perm l->tB step k l' s=some r, ?_, ?_, ?_, ?_,_,r2,W,s0,rfl,rfl,Jb Z⟩
 ·rintro _ _ ⟨l,s,rfl,rfl,_⟩
  exact hB.hs s
 ·rintro L j _ hp ⟨l,s,rfl,rfl,hl⟩
  obtain⟨l',h1,h2⟩:=GL hp rfl
  exact⟨l',s,h2,rfl,fun q hq=>hl q (hq.trans h1)⟩
 ·rintro e L _ ⟨l,s,z,rfl,hl⟩
  cases l with
  |nil=>cases z
  |cons K l=>
   simp only[S5,TA] at z
   obtain⟨rfl,rfl⟩:=z
   have g:∀ l':List (List UInt8×V),l'.Perm l->tB step k (K::l') s=some r:=fun l' hp=>hl _ (hp.cons _)
   cases ho:step K s with
   |none=>have:=g l (.refl _);simp[tB,ho] at this
   |some o=>
    refine yt (fun σ D=>A7 (fun e X J=> ?_) D) (hB.hb K s o ho)
    have b:∀ F,o= .inl F->∀ X,cS X (mk c F)->∃ h4,cS X h4/\∃ Y s,l.map (fun e=>(DV.str e.1,f e.2))=Y.map (fun e=>(.str e.1,f e.2))/\h4=mk c s/\∀ l':List (List UInt8×V),l'.Perm Y->tB step k l' s=some r:=by
     rintro F rfl X hi
     exact⟨_,hi,l,F,rfl,rfl,fun l' hp=>by have:=g l' hp;simpa[tB,ho] using this⟩
    have d:∀ q,o= .inr q->bX k q=some r:=by
     rintro q rfl
     have:=g l (.refl _);simpa[tB,ho] using this
    cases o with
    |inl F=>
     cases e with
     |normal=>exact b F rfl _ J
     |ret=>exact J.elim
     |exit i=>
      simp only[ke] at J
      by_cases hi:i=b2
      ·simp only[hi,T6] at J
       simp only[HS,hi,T6]
       exact b F rfl _ J
      ·simp only[hi,Tv] at J;exact J.elim
    |inr q=>
     have hk:=d q rfl
     cases e with
     |normal=>exact J.elim
     |ret=>
      simp only[ke] at J
      cases q with
      |inl F=>exact J.elim
      |inr r'=>simp only[bX,SN] at hk;subst hk;exact J
     |exit i=>
      simp only[ke] at J
      by_cases hi:i=b2
      ·simp only[hi,T6] at J;exact J.elim
      ·simp only[hi,Tv] at J
       cases q with
       |inl F=>
        obtain⟨rfl,r0⟩:=J
        simp only[HS,hi,Tv,T6]
        exact hB.hq r _ _ _ r0 (hB.hk F hk)
       |inr r'=>
        simp only[bX,SN] at hk;subst hk
        obtain⟨A,J⟩:=J
        simp only[HS,hi,Tv,A]
        exact J
 ·rintro _ ⟨l,s,z,rfl,hl⟩
  have:l=[]:=by simpa using z.symm
  subst this
  exact hB.hk s (by have:=hl [] (.refl _);simpa[tB] using this)
end
