/-
  My text.
-/
import Derived.Test.YteaolfcegaidpaaGreatDoorSZEngB
namespace Go.Proofs.YteaolfcegaidpaaGreatDoor
set_option linter.unusedSimpArgs false
set_option linter.unusedVariables false
open Go.RowKit
variable {F:List Nat} {O:List SV} {b:Nat} {cs:List DV} {o:Nat} {us:List Value} {v:Value} {vs:List Value}
section
variable {w:World} {M:Nat->Prop} {κ:Nat->Value}
theorem aN.length:∀ {cs:List DV} {vs:List Value},aN w M cs vs->vs.length=cs.length
 |[],vs,h=>by unfold aN at h;simp[h]
 |c::cs,vs,h=>by
  unfold aN at h
  obtain⟨u,us,rfl,_,h2⟩:=h
  simp[aN.length h2]
theorem an.length:∀ {cs:List SV} {vs:List Value},an w M κ cs vs->vs.length=cs.length
 |[],vs,h=>by unfold an at h;simp[h]
 |c::cs,vs,h=>by
  unfold an at h
  obtain⟨u,us,rfl,_,h2⟩:=h
  simp[an.length h2]
theorem aN.get:∀ {cs:List DV} {vs:List Value},aN w M cs vs->∀ {i:Nat} {c:DV},cs[i]?=some c->∃ v,vs[i]?=some v/\ba w M c v
 |[],vs,h,i,c,hc=>by simp at hc
 |x::cs,vs,h,i,c,hc=>by
  unfold aN at h
  obtain⟨u,us,rfl,h1,h2⟩:=h
  cases i with
  |zero=>simp at hc;subst hc;exact⟨u,by simp,h1⟩
  |succ i=>simp at hc;simpa using aN.get h2 hc
theorem an.get:∀ {cs:List SV} {vs:List Value},an w M κ cs vs->∀ {i:Nat} {c:SV},cs[i]?=some c->∃ v,vs[i]?=some v/\ah w M κ c v
 |[],vs,h,i,c,hc=>by simp at hc
 |x::cs,vs,h,i,c,hc=>by
  unfold an at h
  obtain⟨u,us,rfl,h1,h2⟩:=h
  cases i with
  |zero=>simp at hc;subst hc;exact⟨u,by simp,h1⟩
  |succ i=>simp at hc;simpa using an.get h2 hc
theorem aN.mk:∀ {cs:List DV} {vs:List Value},vs.length=cs.length->(∀ (i:Nat) (c:DV) (v:Value),cs[i]?=some c->vs[i]?=some v->ba w M c v)->aN w M cs vs
 |[],vs,hl,_=>by unfold aN;exact Te.1 (by simpa using hl)
 |x::cs,[],hl,_=>by simp at hl
 |x::cs,v::vs,hl,h=>by
  unfold aN
  exact⟨v,vs,rfl,h 0 x v oS oS,aN.mk (by simpa using hl) fun i c u hc hu=>h (i+1) c u (by simpa using hc) (by simpa using hu)⟩
theorem an.mk:∀ {cs:List SV} {vs:List Value},vs.length=cs.length->(∀ (i:Nat) (c:SV) (v:Value),cs[i]?=some c->vs[i]?=some v->ah w M κ c v)->an w M κ cs vs
 |[],vs,hl,_=>by unfold an;exact Te.1 (by simpa using hl)
 |x::cs,[],hl,_=>by simp at hl
 |x::cs,v::vs,hl,h=>by
  unfold an
  exact⟨v,vs,rfl,h 0 x v oS oS,an.mk (by simpa using hl) fun i c u hc hu=>h (i+1) c u (by simpa using hc) (by simpa using hu)⟩
theorem aN.append {O:List DV} (h:aN w M cs vs) (k:aN w M O us):aN w M (cs++O) (vs++us):=by
 induction cs generalizing vs with
 |nil=>unfold aN at h;subst h;simpa using k
 |cons c cs ih=>
  unfold aN at h
  obtain⟨u,g,rfl,h1,h2⟩:=h
  show aN w M (c::(cs++O)) _
  unfold aN
  exact⟨u,g++us,rfl,h1,ih h2⟩
theorem an.append {cs:List SV} (h:an w M κ cs vs) (k:an w M κ O us):an w M κ (cs++O) (vs++us):=by
 induction cs generalizing vs with
 |nil=>unfold an at h;subst h;simpa using k
 |cons c cs ih=>
  unfold an at h
  obtain⟨u,g,rfl,h1,h2⟩:=h
  show an w M κ (c::(cs++O)) _
  unfold an
  exact⟨u,g++us,rfl,h1,ih h2⟩
theorem aN.take (h:aN w M cs vs) (n:Nat):aN w M (cs.take n) (vs.take n):=
 aN.mk (by simp[h.length]) fun i c v hc hv=>by
  simp only[T5] at hc hv
  split at hc
  ·rename_i hi
   obtain⟨u,hu,hr⟩:=h.get hc
   simp only[hi,T6] at hv
   rw[hu] at hv;simp at hv;subst hv;exact hr
  ·simp at hc
theorem aN.drop (h:aN w M cs vs) (n:Nat):aN w M (cs.drop n) (vs.drop n):=
 aN.mk (by simp[h.length]) fun i c v hc hv=>by
  simp only[T0] at hc hv
  obtain⟨u,hu,hr⟩:=h.get hc
  rw[hu] at hv;simp at hv;subst hv;exact hr
theorem an.take {cs:List SV} (h:an w M κ cs vs) (n:Nat):an w M κ (cs.take n) (vs.take n):=
 an.mk (by simp[h.length]) fun i c v hc hv=>by
  simp only[T5] at hc hv
  split at hc
  ·rename_i hi
   obtain⟨u,hu,hr⟩:=h.get hc
   simp only[hi,T6] at hv
   rw[hu] at hv;simp at hv;subst hv;exact hr
  ·simp at hc
theorem an.drop {cs:List SV} (h:an w M κ cs vs) (n:Nat):an w M κ (cs.drop n) (vs.drop n):=
 an.mk (by simp[h.length]) fun i c v hc hv=>by
  simp only[T0] at hc hv
  obtain⟨u,hu,hr⟩:=h.get hc
  rw[hu] at hv;simp at hv;subst hv;exact hr
theorem an.of_d (h:aN w M cs vs):an w M κ (cs.map .d) vs:=by
 induction cs generalizing vs with
 |nil=>unfold aN at h;unfold an;exact h
 |cons c cs ih=>
  unfold aN at h
  obtain⟨u,g,rfl,h1,h2⟩:=h
  show an w M κ (.d c::cs.map .d) _
  unfold an ah
  exact⟨u,g,rfl,h1,ih h2⟩
theorem b4.iff:∀ {cs:List DV} {b o:Nat},b4 w M cs b o↔∀ (i:Nat) (c:DV),cs[i]?=some c->∃ v,w.cell? ⟨b,o+i,none⟩=some v/\v.oneCell'=true/\ba w M c v
 |[],b,o=>by unfold b4;simp
 |c::cs,b,o=>by
  unfold b4
  rw[b4.iff]
  constructor
  ·rintro⟨h1,h2⟩ i x hx
   cases i with
   |zero=>simp at hx;subst hx;simpa using h1
   |succ i=>
    have:=h2 i x (by simpa using hx)
    rwa[show o+1+i=o+(i+1) by omega] at this
  ·intro h
   refine⟨by simpa using h 0 c oS,fun i x hx=> ?_⟩
   have:=h (i+1) x (by simpa using hx)
   rwa[show o+(i+1)=o+1+i by omega] at this
theorem b4.cons {c:DV} {cs:List DV} {b o:Nat}:b4 w M (c::cs) b o↔(∃ v,w.cell? ⟨b,o,none⟩=some v/\v.oneCell'=true/\ba w M c v)/\b4 w M cs b (o+1):=by simp only[b4]
theorem b4.append {O:List DV}:b4 w M (cs++O) b o↔b4 w M cs b o/\b4 w M O b (o+cs.length):=by
 induction cs generalizing o with
 |nil=>simp[b4]
 |cons c cs ih=>
  show b4 w M (c::(cs++O)) b o↔_
  rw[b4.cons,b4.cons,ih,and_assoc,show o+1+cs.length=o+(c::cs).length by simp;omega]
theorem bi.iff:∀ {rs:List (List DV)} {b o sz:Nat},bi w M rs b o sz↔(∀ r∈rs,r.length=sz)/\b4 w M rs.flatten b o
 |[],b,o,sz=>by simp[bi,b4]
 |r::rs,b,o,sz=>by
  unfold bi
  rw[bi.iff,TB,b4.append]
  constructor
  ·rintro⟨rfl,h2,E,h4⟩
   exact⟨by simpa using E,h2,h4⟩
  ·rintro⟨h1,h2,E⟩
   have:=h1 r oS
   subst this
   exact⟨rfl,h2,fun r' r1=>h1 r' (by simp[r1]),E⟩
theorem b4.drop (h:b4 w M cs b o) (n:Nat):b4 w M (cs.drop n) b (o+n):=by
 rw[b4.iff] at *
 intro i c hc
 rw[T0] at hc
 have:=h _ _ hc
 rwa[show o+(n+i)=o+n+i by omega] at this
theorem b4.values (h:b4 w M cs b o):∃ vs:List Value,aN w M cs vs/\(∀ x∈vs,x.oneCell'=true)/\∀ j v,vs[j]?=some v->w.cell? ⟨b,o+j,none⟩=some v:=by
 induction cs generalizing o with
 |nil=>exact⟨[],by unfold aN;rfl,by simp,by simp⟩
 |cons c cs ih=>
  unfold b4 at h
  obtain⟨⟨v,hv,h1,hr⟩,h2⟩:=h
  obtain⟨vs,hl,ho,hc⟩:=ih h2
  refine⟨v::vs,by unfold aN;exact⟨v,vs,rfl,hr,hl⟩,by simpa using⟨h1,ho⟩,fun j u hj=> ?_⟩
  cases j with
  |zero=>simp at hj;subst hj;simpa using hv
  |succ j=>
   have:=hc j u (by simpa using hj)
   rwa[show o+1+j=o+(j+1) by omega] at this
theorem b4.of_row {a:Array Value} {T:TypeId} {d:Nat×Nat} (hb:w.heap[b]?=some (.cells a T d)) (hl:aN w M cs vs) (h1:∀ x∈vs,x.oneCell'=true) (hv:∀ j v,vs[j]?=some v->a[o+j]?=some v):b4 w M cs b o:=by
 rw[b4.iff]
 intro i c hc
 obtain⟨v,r7,hr⟩:=hl.get hc
 exact⟨v,by rw[cell_of_row w b _ a T d hb];exact hv i v r7,h1 v (ST r7),hr⟩
end
theorem gy (b o n:Nat):(⟨b,o,none⟩:Addr).add n=⟨b,o+n,none⟩:=by
 unfold Addr.add;split<;>simp_all
def DV.cells?:DV->Option (List DV)
 | .agg cs=>some cs
 | .int k n=>some [.int k n]
 | .bool b=>some [.bool b]
 | .str s=>some [.str s]
 | .slice rows=>some [.slice rows]
 | .ptr cs=>some [.ptr cs]
 | .fn f caps=>some [.fn f caps]
 | .tup _=>none
 | .raw (.pointer none)=>some [.raw (.pointer none)]
 | .raw _=>none
 | .map _ _=>none
 | .err=>none
 | .any=>none
def SV.cells?:SV->Option (List SV)
 | .d v=>match v.cells? with|some cs=>some (cs.map .d)|none=>none
 | .nils=>some [.nils]
 | .agg cs=>some cs
 | .ref id off=>some [.ref id off]
 | .vec id=>some [.vec id]
 | .vref id sz i off=>some [.vref id sz i off]
 | .mp id=>some [.mp id]
 | .clo f ids=>some [.clo f ids]
 | .lit sz n cs=>some [.lit sz n cs]
 | .tup _=>none
 | .own _ _=>none
section
variable {w:World} {M:Nat->Prop} {κ:Nat->Value}
theorem aN.one {c:DV} (h:ba w M c v):aN w M [c] [v]:=by
 simp only[aN];exact⟨v,[],rfl,h,rfl⟩
theorem an.one {c:SV} (h:ah w M κ c v):an w M κ [c] [v]:=by
 simp only[an];exact⟨v,[],rfl,h,rfl⟩
theorem ba.cells {d:DV} (h:ba w M d v) (hc:d.cells?=some cs):∃ vs:List Value,v.cells=vs.toArray/\(∀ x∈vs,x.oneCell'=true)/\aN w M cs vs:=by
 cases d with
 |agg V=>
  simp only[DV.cells?,SN] at hc;subst hc
  unfold ba at h
  obtain⟨vs,rfl,h1,h2⟩:=h
  exact⟨vs,rfl,h1,h2⟩
 |tup _=>simp[DV.cells?] at hc
 |raw u=>
  by_cases hu:u= .pointer none
  ·subst hu
   simp only[DV.cells?,SN] at hc;subst hc
   unfold ba at h;subst h
   exact⟨[.pointer none],rfl,by simp[Value.oneCell'],by unfold aN;exact⟨_,_,rfl,by unfold ba;rfl,by unfold aN;rfl⟩⟩
  ·exfalso
   unfold DV.cells? at hc
   split at hc<;>first|(cases hc;done)|simp_all
 |map _ _=>simp[DV.cells?] at hc
 |any=>simp[DV.cells?] at hc
 |err=>simp[DV.cells?] at hc
 |int k n=>
  simp only[DV.cells?,SN] at hc;subst hc
  refine⟨[v], ?_, ?_,aN.one h⟩<;>(unfold ba at h;subst h;simp[Value.cells,Value.oneCell'])
 |bool b=>
  simp only[DV.cells?,SN] at hc;subst hc
  refine⟨[v], ?_, ?_,aN.one h⟩<;>(unfold ba at h;subst h;simp[Value.cells,Value.oneCell'])
 |str s=>
  simp only[DV.cells?,SN] at hc;subst hc
  refine⟨[v], ?_, ?_,aN.one h⟩<;>(unfold ba at h;subst h;simp[Value.cells,Value.oneCell'])
 |slice rows=>
  simp only[DV.cells?,SN] at hc;subst hc
  refine⟨[v], ?_, ?_,aN.one h⟩<;>(unfold ba at h;obtain⟨a,D,rfl,_⟩:=h;simp[Value.cells,Value.oneCell'])
 |ptr V=>
  simp only[DV.cells?,SN] at hc;subst hc
  refine⟨[v], ?_, ?_,aN.one h⟩<;>(unfold ba at h;obtain⟨a,D,rfl,_⟩:=h;simp[Value.cells,Value.oneCell'])
 |fn f caps=>
  simp only[DV.cells?,SN] at hc;subst hc
  refine⟨[v], ?_, ?_,aN.one h⟩<;>(unfold ba at h;obtain⟨vs,rfl,_⟩:=h;simp[Value.cells,Value.oneCell'])
theorem KL (h:v.oneCell'=true):v.cells=[v].toArray:=by
 cases v<;>simp_all [Value.cells,Value.oneCell']
theorem ah.cells (hk:PF κ) {x:SV} {cs:List SV} (h:ah w M κ x v) (hc:x.cells?=some cs):∃ vs:List Value,v.cells=vs.toArray/\(∀ x∈vs,x.oneCell'=true)/\an w M κ cs vs:=by
 have one:v.oneCell'=true->cs=[x]->∃ vs:List Value,v.cells=vs.toArray/\(∀ x∈vs,x.oneCell'=true)/\an w M κ cs vs:=fun h1 h2=>by
  subst h2
  exact⟨[v],KL h1,by simpa using h1,an.one h⟩
 cases x with
 |d y=>
  unfold SV.cells? at hc
  cases hy:y.cells? with
  |none=>simp[hy] at hc
  |some O=>
   simp only[hy,SN] at hc
   subst hc
   unfold ah at h
   obtain⟨vs,h1,h2,E⟩:=h.cells hy
   exact⟨vs,h1,h2,an.of_d E⟩
 |agg V=>
  simp only[SV.cells?,SN] at hc;subst hc
  unfold ah at h
  obtain⟨vs,rfl,h1,h2⟩:=h
  exact⟨vs,rfl,h1,h2⟩
 |nils=>simp only[SV.cells?,SN] at hc;refine one ?_ hc.symm;unfold ah at h;subst h;rfl
 |ref id off=>simp only[SV.cells?,SN] at hc;refine one ?_ hc.symm;unfold ah at h;obtain⟨b,_,rfl⟩:=h;rfl
 |lit sz n cs=>simp only[SV.cells?,SN] at hc;refine one ?_ hc.symm;unfold ah at h;obtain⟨_,_,rfl,_⟩:=h;rfl
 |tup _=>simp[SV.cells?] at hc
 |own _ _=>simp[SV.cells?] at hc
 |vec id=>simp only[SV.cells?,SN] at hc;refine one ?_ hc.symm;unfold ah at h;subst h;exact hk id
 |vref id sz i off=>simp only[SV.cells?,SN] at hc;refine one ?_ hc.symm;unfold ah at h;obtain⟨b,_,_,_,rfl⟩:=h;rfl
 |mp id=>simp only[SV.cells?,SN] at hc;refine one ?_ hc.symm;unfold ah at h;subst h;exact hk id
 |clo f ids=>simp only[SV.cells?,SN] at hc;refine one ?_ hc.symm;unfold ah at h;obtain⟨rfl,_⟩:=h;rfl
theorem ar.length:∀ {cs:List SV} {vs:List Value} {F:List Nat},ar w M κ cs vs F->vs.length=cs.length
 |[],vs,F,h=>by unfold ar at h;simp[h]
 |c::cs,vs,F,h=>by
  unfold ar at h
  obtain⟨u,us,z,I,rfl,_,_,h2⟩:=h
  simp[ar.length h2]
theorem ar.get:∀ {cs:List SV} {vs:List Value} {F:List Nat},ar w M κ cs vs F->∀ {i:Nat} {c:SV},cs[i]?=some c->∃ v G,vs[i]?=some v/\aQ w M κ c v G
 |[],vs,F,h,i,c,hc=>by simp at hc
 |x::cs,vs,F,h,i,c,hc=>by
  unfold ar at h
  obtain⟨u,us,z,I,rfl,_,h1,h2⟩:=h
  cases i with
  |zero=>simp at hc;subst hc;exact⟨u,z,by simp,h1⟩
  |succ i=>simp at hc;simpa using ar.get h2 hc
theorem ar.append {cs:List SV} {G:List Nat} (h:ar w M κ cs vs F) (k:ar w M κ O us G):ar w M κ (cs++O) (vs++us) (F++G):=by
 induction cs generalizing vs F with
 |nil=>unfold ar at h;obtain⟨rfl,rfl⟩:=h;simpa using k
 |cons c cs ih=>
  unfold ar at h
  obtain⟨u,g,z,I,rfl,rfl,h1,h2⟩:=h
  show ar w M κ (c::(cs++O)) _ _
  unfold ar
  exact⟨u,g++us,z,I++G,rfl,by simp,h1,ih h2⟩
theorem ar.split {cs:List SV} (h:ar w M κ (cs++O) vs F):∃ z I,F=z++I/\ar w M κ cs (vs.take cs.length) z/\ar w M κ O (vs.drop cs.length) I:=by
 induction cs generalizing vs F with
 |nil=>exact⟨[],F,rfl,by simp[ar],by simpa using h⟩
 |cons c cs ih=>
  rw[S_] at h
  unfold ar at h
  obtain⟨u,g,z,I,rfl,rfl,h1,h2⟩:=h
  obtain⟨G1,G2,rfl,E,h4⟩:=ih h2
  refine⟨z++G1,G2,by simp, ?_,by simpa using h4⟩
  simp only[S6,Uz]
  unfold ar
  exact⟨u,_,z,G1,rfl,rfl,h1,E⟩
theorem ar.take {cs:List SV} (h:ar w M κ cs vs F) (n:Nat):∃ z,z.Sublist F/\ar w M κ (cs.take n) (vs.take n) z:=by
 have hl:=h.length
 rw[<-Tf n cs] at h
 obtain⟨z,I,rfl,h1,h2⟩:=h.split
 refine⟨z,List.sublist_append_left _ _, ?_⟩
 by_cases hn:n<=cs.length
 ·rw[Tc,show min n cs.length=n by omega] at h1;exact h1
 ·rw[Tc,show min n cs.length=cs.length by omega] at h1
  rw[Tr (i:=n) (l:=vs) oM,Tr (i:=n) (l:=cs) oM] at *
  rwa[Tr oM] at h1
theorem ar.drop {cs:List SV} (h:ar w M κ cs vs F) (n:Nat):∃ z,z.Sublist F/\ar w M κ (cs.drop n) (vs.drop n) z:=by
 have hl:=h.length
 rw[<-Tf n cs] at h
 obtain⟨z,I,rfl,h1,h2⟩:=h.split
 refine⟨I,List.sublist_append_right _ _, ?_⟩
 by_cases hn:n<=cs.length
 ·rw[Tc,show min n cs.length=n by omega] at h2;exact h2
 ·rw[Uj (i:=n) (l:=vs) oM,Uj (i:=n) (l:=cs) oM] at *
  rw[Tc,show min n cs.length=cs.length by omega] at h2
  rwa[Uj oM] at h2
theorem ar.splice {cs a:List SV} (h:ar w M κ cs vs F) (k:an w M κ a us) (off:Nat):∃ z,z.Sublist F/\ar w M κ (cs.take off++a++cs.drop (off+a.length)) (vs.take off++us++vs.drop (off+us.length)) z:=by
 have r5:=k.length
 have hl:=h.length
 have key:∃ z I,(z++I).Sublist F/\ar w M κ (cs.take off) (vs.take off) z/\ar w M κ (cs.drop (off+a.length)) (vs.drop (off+us.length)) I:=by
  rw[<-Tf off cs] at h
  obtain⟨z,I,rfl,h1,h2⟩:=h.split
  obtain⟨b,E,h4⟩:=h2.drop a.length
  refine⟨z,b,U2 (Us _) E, ?_, ?_⟩
  ·by_cases hn:off<=cs.length
   ·rw[Tc,show min off cs.length=off by omega] at h1;exact h1
   ·rw[Tc,show min off cs.length=cs.length by omega] at h1
    rw[Tr (i:=off) (l:=vs) oM]
    rwa[Tr (l:=vs) oM] at h1
  ·rw[Ua,Ua] at h4
   by_cases hn:off<=cs.length
   ·rw[Tc,show min off cs.length=off by omega] at h4
    rw[r5];exact h4
   ·rw[Uj (l:=cs) oM] at h4⊢
    rw[Uj (l:=vs) oM]
    have:=h4.length
    unfold ar at h4⊢
    exact⟨rfl,h4.2⟩
 obtain⟨z,I,h0,h1,h2⟩:=key
 refine⟨z++I,h0, ?_⟩
 have:=(h1.append (ar.of_S _ _ k)).append h2
 simpa using this
end
