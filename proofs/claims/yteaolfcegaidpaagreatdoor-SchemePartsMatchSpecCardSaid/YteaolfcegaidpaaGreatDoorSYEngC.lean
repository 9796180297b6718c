/-
  My text.
-/
import Derived.Test.YteaolfcegaidpaaGreatDoorSYEngB
namespace Go.Proofs.YteaolfcegaidpaaGreatDoor
set_option linter.unusedSimpArgs false
set_option linter.unusedVariables false
open Go.RowKit
section
variable {w:World} {M:Nat->Prop} {κ:Nat->Value}
theorem aI.length:∀ {cs:List DV} {vs:List Value},aI w M cs vs->vs.length=cs.length
 |[],vs,h=>by unfold aI at h;simp[h]
 |c::cs,vs,h=>by
  unfold aI at h
  obtain⟨u,us,rfl,_,h2⟩:=h
  simp[aI.length h2]
theorem ai.length:∀ {cs:List SV} {vs:List Value},ai w M κ cs vs->vs.length=cs.length
 |[],vs,h=>by unfold ai at h;simp[h]
 |c::cs,vs,h=>by
  unfold ai at h
  obtain⟨u,us,rfl,_,h2⟩:=h
  simp[ai.length h2]
theorem aI.get:∀ {cs:List DV} {vs:List Value},aI w M cs vs->∀ {i:Nat} {c:DV},cs[i]?=some c->∃ v,vs[i]?=some v/\aQ w M c v
 |[],vs,h,i,c,hc=>by simp at hc
 |x::cs,vs,h,i,c,hc=>by
  unfold aI at h
  obtain⟨u,us,rfl,h1,h2⟩:=h
  cases i with
  |zero=>simp at hc;subst hc;exact⟨u,by simp,h1⟩
  |succ i=>simp at hc;simpa using aI.get h2 hc
theorem ai.get:∀ {cs:List SV} {vs:List Value},ai w M κ cs vs->∀ {i:Nat} {c:SV},cs[i]?=some c->∃ v,vs[i]?=some v/\ae w M κ c v
 |[],vs,h,i,c,hc=>by simp at hc
 |x::cs,vs,h,i,c,hc=>by
  unfold ai at h
  obtain⟨u,us,rfl,h1,h2⟩:=h
  cases i with
  |zero=>simp at hc;subst hc;exact⟨u,by simp,h1⟩
  |succ i=>simp at hc;simpa using ai.get h2 hc
theorem aI.mk:∀ {cs:List DV} {vs:List Value},vs.length=cs.length->(∀ (i:Nat) (c:DV) (v:Value),cs[i]?=some c->vs[i]?=some v->aQ w M c v)->aI w M cs vs
 |[],vs,hl,_=>by unfold aI;exact OX.1 (by simpa using hl)
 |x::cs,[],hl,_=>by simp at hl
 |x::cs,v::vs,hl,h=>by
  unfold aI
  exact⟨v,vs,rfl,h 0 x v oS oS,aI.mk (by simpa using hl) fun i c u hc hu=>h (i+1) c u (by simpa using hc) (by simpa using hu)⟩
theorem ai.mk:∀ {cs:List SV} {vs:List Value},vs.length=cs.length->(∀ (i:Nat) (c:SV) (v:Value),cs[i]?=some c->vs[i]?=some v->ae w M κ c v)->ai w M κ cs vs
 |[],vs,hl,_=>by unfold ai;exact OX.1 (by simpa using hl)
 |x::cs,[],hl,_=>by simp at hl
 |x::cs,v::vs,hl,h=>by
  unfold ai
  exact⟨v,vs,rfl,h 0 x v oS oS,ai.mk (by simpa using hl) fun i c u hc hu=>h (i+1) c u (by simpa using hc) (by simpa using hu)⟩
theorem aI.append {cs ds:List DV} {vs us:List Value} (h:aI w M cs vs) (k:aI w M ds us):aI w M (cs++ds) (vs++us):=by
 induction cs generalizing vs with
 |nil=>unfold aI at h;subst h;simpa using k
 |cons c cs ih=>
  unfold aI at h
  obtain⟨u,us',rfl,h1,h2⟩:=h
  show aI w M (c::(cs++ds)) _
  unfold aI
  exact⟨u,us'++us,rfl,h1,ih h2⟩
theorem ai.append {cs ds:List SV} {vs us:List Value} (h:ai w M κ cs vs) (k:ai w M κ ds us):ai w M κ (cs++ds) (vs++us):=by
 induction cs generalizing vs with
 |nil=>unfold ai at h;subst h;simpa using k
 |cons c cs ih=>
  unfold ai at h
  obtain⟨u,us',rfl,h1,h2⟩:=h
  show ai w M κ (c::(cs++ds)) _
  unfold ai
  exact⟨u,us'++us,rfl,h1,ih h2⟩
theorem aI.take {cs:List DV} {vs:List Value} (h:aI w M cs vs) (n:Nat):aI w M (cs.take n) (vs.take n):=
 aI.mk (by simp[h.length]) fun i c v hc hv=>by
  simp only[PJ] at hc hv
  split at hc
  ·rename_i hi
   obtain⟨u,hu,hr⟩:=h.get hc
   simp only[hi,PR] at hv
   rw[hu] at hv;simp at hv;subst hv;exact hr
  ·simp at hc
theorem aI.drop {cs:List DV} {vs:List Value} (h:aI w M cs vs) (n:Nat):aI w M (cs.drop n) (vs.drop n):=
 aI.mk (by simp[h.length]) fun i c v hc hv=>by
  simp only[PF] at hc hv
  obtain⟨u,hu,hr⟩:=h.get hc
  rw[hu] at hv;simp at hv;subst hv;exact hr
theorem ai.take {cs:List SV} {vs:List Value} (h:ai w M κ cs vs) (n:Nat):ai w M κ (cs.take n) (vs.take n):=
 ai.mk (by simp[h.length]) fun i c v hc hv=>by
  simp only[PJ] at hc hv
  split at hc
  ·rename_i hi
   obtain⟨u,hu,hr⟩:=h.get hc
   simp only[hi,PR] at hv
   rw[hu] at hv;simp at hv;subst hv;exact hr
  ·simp at hc
theorem ai.drop {cs:List SV} {vs:List Value} (h:ai w M κ cs vs) (n:Nat):ai w M κ (cs.drop n) (vs.drop n):=
 ai.mk (by simp[h.length]) fun i c v hc hv=>by
  simp only[PF] at hc hv
  obtain⟨u,hu,hr⟩:=h.get hc
  rw[hu] at hv;simp at hv;subst hv;exact hr
theorem ai.of_d {cs:List DV} {vs:List Value} (h:aI w M cs vs):ai w M κ (cs.map .d) vs:=by
 induction cs generalizing vs with
 |nil=>unfold aI at h;unfold ai;exact h
 |cons c cs ih=>
  unfold aI at h
  obtain⟨u,us',rfl,h1,h2⟩:=h
  show ai w M κ (.d c::cs.map .d) _
  unfold ai ae
  exact⟨u,us',rfl,h1,ih h2⟩
theorem bO.iff:∀ {cs:List DV} {b o:Nat},bO w M cs b o↔∀ (i:Nat) (c:DV),cs[i]?=some c->∃ v,w.cell? ⟨b,o+i,none⟩=some v/\v.oneCell'=true/\aQ w M c v
 |[],b,o=>by unfold bO;simp
 |c::cs,b,o=>by
  unfold bO
  rw[bO.iff]
  constructor
  ·rintro⟨h1,h2⟩ i x hx
   cases i with
   |zero=>simp at hx;subst hx;simpa using h1
   |succ i=>
    have:=h2 i x (by simpa using hx)
    rwa[show o+1+i=o+(i+1) by omega] at this
  ·intro h
   refine⟨by simpa using h 0 c oS,fun i x hx=> ?_⟩
   have:=h (i+1) x (by simpa using hx)
   rwa[show o+(i+1)=o+1+i by omega] at this
theorem bO.cons {c:DV} {cs:List DV} {b o:Nat}:bO w M (c::cs) b o↔(∃ v,w.cell? ⟨b,o,none⟩=some v/\v.oneCell'=true/\aQ w M c v)/\bO w M cs b (o+1):=by simp only[bO]
theorem bO.append {cs ds:List DV} {b o:Nat}:bO w M (cs++ds) b o↔bO w M cs b o/\bO w M ds b (o+cs.length):=by
 induction cs generalizing o with
 |nil=>simp[bO]
 |cons c cs ih=>
  show bO w M (c::(cs++ds)) b o↔_
  rw[bO.cons,bO.cons,ih,and_assoc,show o+1+cs.length=o+(c::cs).length by simp;omega]
theorem aS.iff:∀ {rs:List (List DV)} {b o sz:Nat},aS w M rs b o sz↔(∀ r∈rs,r.length=sz)/\bO w M rs.flatten b o
 |[],b,o,sz=>by simp[aS,bO]
 |r::rs,b,o,sz=>by
  unfold aS
  rw[aS.iff,O_,bO.append]
  constructor
  ·rintro⟨rfl,h2,h3,h4⟩
   exact⟨by simpa using h3,h2,h4⟩
  ·rintro⟨h1,h2,h3⟩
   have:=h1 r oS
   subst this
   exact⟨rfl,h2,fun r' hr'=>h1 r' (by simp[hr']),h3⟩
theorem bO.drop {cs:List DV} {b o:Nat} (h:bO w M cs b o) (n:Nat):bO w M (cs.drop n) b (o+n):=by
 rw[bO.iff] at *
 intro i c hc
 rw[PF] at hc
 have:=h _ _ hc
 rwa[show o+(n+i)=o+n+i by omega] at this
theorem bO.values {cs:List DV} {b o:Nat} (h:bO w M cs b o):∃ vs:List Value,aI w M cs vs/\(∀ x∈vs,x.oneCell'=true)/\∀ j v,vs[j]?=some v->w.cell? ⟨b,o+j,none⟩=some v:=by
 induction cs generalizing o with
 |nil=>exact⟨[],by unfold aI;rfl,by simp,by simp⟩
 |cons c cs ih=>
  unfold bO at h
  obtain⟨⟨v,hv,h1,hr⟩,h2⟩:=h
  obtain⟨vs,hl,ho,hc⟩:=ih h2
  refine⟨v::vs,by unfold aI;exact⟨v,vs,rfl,hr,hl⟩,by simpa using⟨h1,ho⟩,fun j u hj=> ?_⟩
  cases j with
  |zero=>simp at hj;subst hj;simpa using hv
  |succ j=>
   have:=hc j u (by simpa using hj)
   rwa[show o+1+j=o+(j+1) by omega] at this
theorem bO.of_row {cs:List DV} {b o:Nat} {arr:Array Value} {T:TypeId} {fz:Nat×Nat} {vs:List Value} (hb:w.heap[b]?=some (.cells arr T fz)) (hl:aI w M cs vs) (h1:∀ x∈vs,x.oneCell'=true)
  (hv:∀ j v,vs[j]?=some v->arr[o+j]?=some v):bO w M cs b o:=by
 rw[bO.iff]
 intro i c hc
 obtain⟨v,hv',hr⟩:=hl.get hc
 exact⟨v,by rw[cell_of_row w b _ arr T fz hb];exact hv i v hv',h1 v (OE hv'),hr⟩
end
theorem gm (b o n:Nat):(⟨b,o,none⟩:Addr).add n=⟨b,o+n,none⟩:=by
 unfold Addr.add;split<;>simp_all
def DV.cells?:DV->Option (List DV)
 | .agg cs=>some cs
 | .int k n=>some [.int k n]
 | .bool b=>some [.bool b]
 | .str s=>some [.str s]
 | .slice rows=>some [.slice rows]
 | .ptr cs=>some [.ptr cs]
 | .fn f caps=>some [.fn f caps]
 | .tup _=>none
 | .raw (.pointer none)=>some [.raw (.pointer none)]
 | .raw _=>none
 | .map _ _=>none
 | .err=>none
 | .any=>none
def SV.cells?:SV->Option (List SV)
 | .d v=>match v.cells? with|some cs=>some (cs.map .d)|none=>none
 | .nils=>some [.nils]
 | .agg cs=>some cs
 | .ref id off=>some [.ref id off]
 | .vec id=>some [.vec id]
 | .vref id sz i off=>some [.vref id sz i off]
 | .mp id=>some [.mp id]
 | .clo f ids=>some [.clo f ids]
 | .lit sz n cs=>some [.lit sz n cs]
 | .tup _=>none
 | .own _ _=>none
section
variable {w:World} {M:Nat->Prop} {κ:Nat->Value}
theorem aI.one {c:DV} {v:Value} (h:aQ w M c v):aI w M [c] [v]:=by
 simp only[aI];exact⟨v,[],rfl,h,rfl⟩
theorem ai.one {c:SV} {v:Value} (h:ae w M κ c v):ai w M κ [c] [v]:=by
 simp only[ai];exact⟨v,[],rfl,h,rfl⟩
theorem aQ.cells {d:DV} {v:Value} {cs:List DV} (h:aQ w M d v) (hc:d.cells?=some cs):∃ vs:List Value,v.cells=vs.toArray/\(∀ x∈vs,x.oneCell'=true)/\aI w M cs vs:=by
 cases d with
 |agg cs'=>
  simp only[DV.cells?,Oy] at hc;subst hc
  unfold aQ at h
  obtain⟨vs,rfl,h1,h2⟩:=h
  exact⟨vs,rfl,h1,h2⟩
 |tup _=>simp[DV.cells?] at hc
 |raw u=>
  by_cases hu:u= .pointer none
  ·subst hu
   simp only[DV.cells?,Oy] at hc;subst hc
   unfold aQ at h;subst h
   exact⟨[.pointer none],rfl,by simp[Value.oneCell'],by unfold aI;exact⟨_,_,rfl,by unfold aQ;rfl,by unfold aI;rfl⟩⟩
  ·exfalso
   unfold DV.cells? at hc
   split at hc<;>first|(cases hc;done)|simp_all
 |map _ _=>simp[DV.cells?] at hc
 |any=>simp[DV.cells?] at hc
 |err=>simp[DV.cells?] at hc
 |int k n=>
  simp only[DV.cells?,Oy] at hc;subst hc
  refine⟨[v], ?_, ?_,aI.one h⟩<;>(unfold aQ at h;subst h;simp[Value.cells,Value.oneCell'])
 |bool b=>
  simp only[DV.cells?,Oy] at hc;subst hc
  refine⟨[v], ?_, ?_,aI.one h⟩<;>(unfold aQ at h;subst h;simp[Value.cells,Value.oneCell'])
 |str s=>
  simp only[DV.cells?,Oy] at hc;subst hc
  refine⟨[v], ?_, ?_,aI.one h⟩<;>(unfold aQ at h;subst h;simp[Value.cells,Value.oneCell'])
 |slice rows=>
  simp only[DV.cells?,Oy] at hc;subst hc
  refine⟨[v], ?_, ?_,aI.one h⟩<;>(unfold aQ at h;obtain⟨a,cap,rfl,_⟩:=h;simp[Value.cells,Value.oneCell'])
 |ptr cs'=>
  simp only[DV.cells?,Oy] at hc;subst hc
  refine⟨[v], ?_, ?_,aI.one h⟩<;>(unfold aQ at h;obtain⟨a,cap,rfl,_⟩:=h;simp[Value.cells,Value.oneCell'])
 |fn f caps=>
  simp only[DV.cells?,Oy] at hc;subst hc
  refine⟨[v], ?_, ?_,aI.one h⟩<;>(unfold aQ at h;obtain⟨vs,rfl,_⟩:=h;simp[Value.cells,Value.oneCell'])
theorem HI {v:Value} (h:v.oneCell'=true):v.cells=[v].toArray:=by
 cases v<;>simp_all [Value.cells,Value.oneCell']
theorem ae.cells (hk:Mc κ) {x:SV} {v:Value} {cs:List SV} (h:ae w M κ x v) (hc:x.cells?=some cs):∃ vs:List Value,v.cells=vs.toArray/\(∀ x∈vs,x.oneCell'=true)/\ai w M κ cs vs:=by
 have one:v.oneCell'=true->cs=[x]->∃ vs:List Value,v.cells=vs.toArray/\(∀ x∈vs,x.oneCell'=true)/\ai w M κ cs vs:=fun h1 h2=>by
  subst h2
  exact⟨[v],HI h1,by simpa using h1,ai.one h⟩
 cases x with
 |d y=>
  unfold SV.cells? at hc
  cases hy:y.cells? with
  |none=>simp[hy] at hc
  |some ds=>
   simp only[hy,Oy] at hc
   subst hc
   unfold ae at h
   obtain⟨vs,h1,h2,h3⟩:=h.cells hy
   exact⟨vs,h1,h2,ai.of_d h3⟩
 |agg cs'=>
  simp only[SV.cells?,Oy] at hc;subst hc
  unfold ae at h
  obtain⟨vs,rfl,h1,h2⟩:=h
  exact⟨vs,rfl,h1,h2⟩
 |nils=>simp only[SV.cells?,Oy] at hc;refine one ?_ hc.symm;unfold ae at h;subst h;rfl
 |ref id off=>simp only[SV.cells?,Oy] at hc;refine one ?_ hc.symm;unfold ae at h;obtain⟨b,_,rfl⟩:=h;rfl
 |lit sz n cs=>simp only[SV.cells?,Oy] at hc;refine one ?_ hc.symm;unfold ae at h;obtain⟨_,_,rfl,_⟩:=h;rfl
 |tup _=>simp[SV.cells?] at hc
 |own _ _=>simp[SV.cells?] at hc
 |vec id=>simp only[SV.cells?,Oy] at hc;refine one ?_ hc.symm;unfold ae at h;subst h;exact hk id
 |vref id sz i off=>simp only[SV.cells?,Oy] at hc;refine one ?_ hc.symm;unfold ae at h;obtain⟨b,_,_,_,rfl⟩:=h;rfl
 |mp id=>simp only[SV.cells?,Oy] at hc;refine one ?_ hc.symm;unfold ae at h;subst h;exact hk id
 |clo f ids=>simp only[SV.cells?,Oy] at hc;refine one ?_ hc.symm;unfold ae at h;obtain⟨rfl,_⟩:=h;rfl
theorem am.length:∀ {cs:List SV} {vs:List Value} {F:List Nat},am w M κ cs vs F->vs.length=cs.length
 |[],vs,F,h=>by unfold am at h;simp[h]
 |c::cs,vs,F,h=>by
  unfold am at h
  obtain⟨u,us,F1,F2,rfl,_,_,h2⟩:=h
  simp[am.length h2]
theorem am.get:∀ {cs:List SV} {vs:List Value} {F:List Nat},am w M κ cs vs F->∀ {i:Nat} {c:SV},cs[i]?=some c->∃ v G,vs[i]?=some v/\aK w M κ c v G
 |[],vs,F,h,i,c,hc=>by simp at hc
 |x::cs,vs,F,h,i,c,hc=>by
  unfold am at h
  obtain⟨u,us,F1,F2,rfl,_,h1,h2⟩:=h
  cases i with
  |zero=>simp at hc;subst hc;exact⟨u,F1,by simp,h1⟩
  |succ i=>simp at hc;simpa using am.get h2 hc
theorem am.append {cs ds:List SV} {vs us:List Value} {F G:List Nat} (h:am w M κ cs vs F) (k:am w M κ ds us G):am w M κ (cs++ds) (vs++us) (F++G):=by
 induction cs generalizing vs F with
 |nil=>unfold am at h;obtain⟨rfl,rfl⟩:=h;simpa using k
 |cons c cs ih=>
  unfold am at h
  obtain⟨u,us',F1,F2,rfl,rfl,h1,h2⟩:=h
  show am w M κ (c::(cs++ds)) _ _
  unfold am
  exact⟨u,us'++us,F1,F2++G,rfl,by simp,h1,ih h2⟩
theorem am.split {cs ds:List SV} {vs:List Value} {F:List Nat} (h:am w M κ (cs++ds) vs F):∃ F1 F2,F=F1++F2/\am w M κ cs (vs.take cs.length) F1/\am w M κ ds (vs.drop cs.length) F2:=by
 induction cs generalizing vs F with
 |nil=>exact⟨[],F,rfl,by simp[am],by simpa using h⟩
 |cons c cs ih=>
  rw[OM] at h
  unfold am at h
  obtain⟨u,us',F1,F2,rfl,rfl,h1,h2⟩:=h
  obtain⟨G1,G2,rfl,h3,h4⟩:=ih h2
  refine⟨F1++G1,G2,by simp, ?_,by simpa using h4⟩
  simp only[OW,Qk]
  unfold am
  exact⟨u,_,F1,G1,rfl,rfl,h1,h3⟩
theorem am.take {cs:List SV} {vs:List Value} {F:List Nat} (h:am w M κ cs vs F) (n:Nat):∃ F1,F1.Sublist F/\am w M κ (cs.take n) (vs.take n) F1:=by
 have hl:=h.length
 rw[<-OU n cs] at h
 obtain⟨F1,F2,rfl,h1,h2⟩:=h.split
 refine⟨F1,List.sublist_append_left _ _, ?_⟩
 by_cases hn:n<=cs.length
 ·rw[OT,show min n cs.length=n by omega] at h1;exact h1
 ·rw[OT,show min n cs.length=cs.length by omega] at h1
  rw[O8 (i:=n) (l:=vs) oM,O8 (i:=n) (l:=cs) oM] at *
  rwa[O8 oM] at h1
theorem am.drop {cs:List SV} {vs:List Value} {F:List Nat} (h:am w M κ cs vs F) (n:Nat):∃ F1,F1.Sublist F/\am w M κ (cs.drop n) (vs.drop n) F1:=by
 have hl:=h.length
 rw[<-OU n cs] at h
 obtain⟨F1,F2,rfl,h1,h2⟩:=h.split
 refine⟨F2,List.sublist_append_right _ _, ?_⟩
 by_cases hn:n<=cs.length
 ·rw[OT,show min n cs.length=n by omega] at h2;exact h2
 ·rw[PS (i:=n) (l:=vs) oM,PS (i:=n) (l:=cs) oM] at *
  rw[OT,show min n cs.length=cs.length by omega] at h2
  rwa[PS oM] at h2
theorem am.splice {cs ns:List SV} {vs us:List Value} {F:List Nat} (h:am w M κ cs vs F) (k:ai w M κ ns us) (off:Nat):∃ F1,F1.Sublist F/\am w M κ (cs.take off++ns++cs.drop (off+ns.length)) (vs.take off++us++vs.drop (off+us.length)) F1:=by
 have hul:=k.length
 have hl:=h.length
 have key:∃ F1 F2,(F1++F2).Sublist F/\am w M κ (cs.take off) (vs.take off) F1/\am w M κ (cs.drop (off+ns.length)) (vs.drop (off+us.length)) F2:=by
  rw[<-OU off cs] at h
  obtain⟨F1,F2,rfl,h1,h2⟩:=h.split
  obtain⟨F3,h3,h4⟩:=h2.drop ns.length
  refine⟨F1,F3,Qv (Qp _) h3, ?_, ?_⟩
  ·by_cases hn:off<=cs.length
   ·rw[OT,show min off cs.length=off by omega] at h1;exact h1
   ·rw[OT,show min off cs.length=cs.length by omega] at h1
    rw[O8 (i:=off) (l:=vs) oM]
    rwa[O8 (l:=vs) oM] at h1
  ·rw[PX,PX] at h4
   by_cases hn:off<=cs.length
   ·rw[OT,show min off cs.length=off by omega] at h4
    rw[hul];exact h4
   ·rw[PS (l:=cs) oM] at h4⊢
    rw[PS (l:=vs) oM]
    have:=h4.length
    unfold am at h4⊢
    exact⟨rfl,h4.2⟩
 obtain⟨F1,F2,h0,h1,h2⟩:=key
 refine⟨F1++F2,h0, ?_⟩
 have:=(h1.append (am.of_S _ _ k)).append h2
 simpa using this
end
