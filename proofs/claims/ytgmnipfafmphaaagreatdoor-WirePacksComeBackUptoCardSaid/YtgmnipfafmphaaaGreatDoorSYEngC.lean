/-
  My text.
-/
import Derived.Test.YtgmnipfafmphaaaGreatDoorSYEngB
namespace Go.Proofs.YtgmnipfafmphaaaGreatDoor
set_option linter.unusedSimpArgs false
set_option linter.unusedVariables false
open Go.RowKit
variable {F:List Nat} {J:List SV} {R:List Value} {b:Nat} {cs:List DV} {o:Nat} {v:Value} {vs:List Value}
section
variable {w:World} {M:Nat->Prop} {κ:Nat->Value}
theorem aC.length:∀ {cs:List DV} {vs:List Value},aC w M cs vs->vs.length=cs.length
 |[],vs,h=>by unfold aC at h;simp[h]
 |c::cs,vs,h=>by
  unfold aC at h
  obtain⟨u,R,rfl,_,h2⟩:=h
  simp[aC.length h2]
theorem an.length:∀ {cs:List SV} {vs:List Value},an w M κ cs vs->vs.length=cs.length
 |[],vs,h=>by unfold an at h;simp[h]
 |c::cs,vs,h=>by
  unfold an at h
  obtain⟨u,R,rfl,_,h2⟩:=h
  simp[an.length h2]
theorem aC.get:∀ {cs:List DV} {vs:List Value},aC w M cs vs->∀ {i:Nat} {c:DV},cs[i]?=some c->∃ v,vs[i]?=some v/\aW w M c v
 |[],vs,h,i,c,hc=>by simp at hc
 |x::cs,vs,h,i,c,hc=>by
  unfold aC at h
  obtain⟨u,R,rfl,h1,h2⟩:=h
  cases i with
  |zero=>simp at hc;subst hc;exact⟨u,by simp,h1⟩
  |succ i=>simp at hc;simpa using aC.get h2 hc
theorem an.get:∀ {cs:List SV} {vs:List Value},an w M κ cs vs->∀ {i:Nat} {c:SV},cs[i]?=some c->∃ v,vs[i]?=some v/\ai w M κ c v
 |[],vs,h,i,c,hc=>by simp at hc
 |x::cs,vs,h,i,c,hc=>by
  unfold an at h
  obtain⟨u,R,rfl,h1,h2⟩:=h
  cases i with
  |zero=>simp at hc;subst hc;exact⟨u,by simp,h1⟩
  |succ i=>simp at hc;simpa using an.get h2 hc
theorem aC.mk:∀ {cs:List DV} {vs:List Value},vs.length=cs.length->(∀ (i:Nat) (c:DV) (v:Value),cs[i]?=some c->vs[i]?=some v->aW w M c v)->aC w M cs vs
 |[],vs,hl,_=>by unfold aC;exact Ta.1 (by simpa using hl)
 |x::cs,[],hl,_=>by simp at hl
 |x::cs,v::vs,hl,h=>by
  unfold aC
  exact⟨v,vs,rfl,h 0 x v oS oS,aC.mk (by simpa using hl) fun i c u hc hu=>h (i+1) c u (by simpa using hc) (by simpa using hu)⟩
theorem an.mk:∀ {cs:List SV} {vs:List Value},vs.length=cs.length->(∀ (i:Nat) (c:SV) (v:Value),cs[i]?=some c->vs[i]?=some v->ai w M κ c v)->an w M κ cs vs
 |[],vs,hl,_=>by unfold an;exact Ta.1 (by simpa using hl)
 |x::cs,[],hl,_=>by simp at hl
 |x::cs,v::vs,hl,h=>by
  unfold an
  exact⟨v,vs,rfl,h 0 x v oS oS,an.mk (by simpa using hl) fun i c u hc hu=>h (i+1) c u (by simpa using hc) (by simpa using hu)⟩
theorem aC.append {J:List DV} (h:aC w M cs vs) (k:aC w M J R):aC w M (cs++J) (vs++R):=by
 induction cs generalizing vs with
 |nil=>unfold aC at h;subst h;simpa using k
 |cons c cs ih=>
  unfold aC at h
  obtain⟨u,g,rfl,h1,h2⟩:=h
  show aC w M (c::(cs++J)) _
  unfold aC
  exact⟨u,g++R,rfl,h1,ih h2⟩
theorem an.append {cs:List SV} (h:an w M κ cs vs) (k:an w M κ J R):an w M κ (cs++J) (vs++R):=by
 induction cs generalizing vs with
 |nil=>unfold an at h;subst h;simpa using k
 |cons c cs ih=>
  unfold an at h
  obtain⟨u,g,rfl,h1,h2⟩:=h
  show an w M κ (c::(cs++J)) _
  unfold an
  exact⟨u,g++R,rfl,h1,ih h2⟩
theorem aC.take (h:aC w M cs vs) (n:Nat):aC w M (cs.take n) (vs.take n):=
 aC.mk (by simp[h.length]) fun i c v hc hv=>by
  simp only[Ub] at hc hv
  split at hc
  ·rename_i hi
   obtain⟨u,hu,D⟩:=h.get hc
   simp only[hi,TB] at hv
   rw[hu] at hv;simp at hv;subst hv;exact D
  ·simp at hc
theorem aC.drop (h:aC w M cs vs) (n:Nat):aC w M (cs.drop n) (vs.drop n):=
 aC.mk (by simp[h.length]) fun i c v hc hv=>by
  simp only[T2] at hc hv
  obtain⟨u,hu,D⟩:=h.get hc
  rw[hu] at hv;simp at hv;subst hv;exact D
theorem an.take {cs:List SV} (h:an w M κ cs vs) (n:Nat):an w M κ (cs.take n) (vs.take n):=
 an.mk (by simp[h.length]) fun i c v hc hv=>by
  simp only[Ub] at hc hv
  split at hc
  ·rename_i hi
   obtain⟨u,hu,D⟩:=h.get hc
   simp only[hi,TB] at hv
   rw[hu] at hv;simp at hv;subst hv;exact D
  ·simp at hc
theorem an.drop {cs:List SV} (h:an w M κ cs vs) (n:Nat):an w M κ (cs.drop n) (vs.drop n):=
 an.mk (by simp[h.length]) fun i c v hc hv=>by
  simp only[T2] at hc hv
  obtain⟨u,hu,D⟩:=h.get hc
  rw[hu] at hv;simp at hv;subst hv;exact D
theorem an.of_d (h:aC w M cs vs):an w M κ (cs.map .d) vs:=by
 induction cs generalizing vs with
 |nil=>unfold aC at h;unfold an;exact h
 |cons c cs ih=>
  unfold aC at h
  obtain⟨u,g,rfl,h1,h2⟩:=h
  show an w M κ (.d c::cs.map .d) _
  unfold an ai
  exact⟨u,g,rfl,h1,ih h2⟩
theorem bw.iff:∀ {cs:List DV} {b o:Nat},bw w M cs b o↔∀ (i:Nat) (c:DV),cs[i]?=some c->∃ v,w.cell? ⟨b,o+i,none⟩=some v/\v.oneCell'=true/\aW w M c v
 |[],b,o=>by unfold bw;simp
 |c::cs,b,o=>by
  unfold bw
  rw[bw.iff]
  constructor
  ·rintro⟨h1,h2⟩ i x hx
   cases i with
   |zero=>simp at hx;subst hx;simpa using h1
   |succ i=>
    have:=h2 i x (by simpa using hx)
    rwa[show o+1+i=o+(i+1) by omega] at this
  ·intro h
   refine⟨by simpa using h 0 c oS,fun i x hx=> ?_⟩
   have:=h (i+1) x (by simpa using hx)
   rwa[show o+(i+1)=o+1+i by omega] at this
theorem bw.cons {c:DV} {cs:List DV} {b o:Nat}:bw w M (c::cs) b o↔(∃ v,w.cell? ⟨b,o,none⟩=some v/\v.oneCell'=true/\aW w M c v)/\bw w M cs b (o+1):=by simp only[bw]
theorem bw.append {J:List DV}:bw w M (cs++J) b o↔bw w M cs b o/\bw w M J b (o+cs.length):=by
 induction cs generalizing o with
 |nil=>simp[bw]
 |cons c cs ih=>
  show bw w M (c::(cs++J)) b o↔_
  rw[bw.cons,bw.cons,ih,and_assoc,show o+1+cs.length=o+(c::cs).length by simp;omega]
theorem aQ.iff:∀ {rs:List (List DV)} {b o sz:Nat},aQ w M rs b o sz↔(∀ r∈rs,r.length=sz)/\bw w M rs.flatten b o
 |[],b,o,sz=>by simp[aQ,bw]
 |r::rs,b,o,sz=>by
  unfold aQ
  rw[aQ.iff,TF,bw.append]
  constructor
  ·rintro⟨rfl,h2,E,h4⟩
   exact⟨by simpa using E,h2,h4⟩
  ·rintro⟨h1,h2,E⟩
   have:=h1 r oS
   subst this
   exact⟨rfl,h2,fun r' h8=>h1 r' (by simp[h8]),E⟩
theorem bw.drop (h:bw w M cs b o) (n:Nat):bw w M (cs.drop n) b (o+n):=by
 rw[bw.iff] at *
 intro i c hc
 rw[T2] at hc
 have:=h _ _ hc
 rwa[show o+(n+i)=o+n+i by omega] at this
theorem bw.values (h:bw w M cs b o):∃ vs:List Value,aC w M cs vs/\(∀ x∈vs,x.oneCell'=true)/\∀ j v,vs[j]?=some v->w.cell? ⟨b,o+j,none⟩=some v:=by
 induction cs generalizing o with
 |nil=>exact⟨[],by unfold aC;rfl,by simp,by simp⟩
 |cons c cs ih=>
  unfold bw at h
  obtain⟨⟨v,hv,h1,D⟩,h2⟩:=h
  obtain⟨vs,hl,ho,hc⟩:=ih h2
  refine⟨v::vs,by unfold aC;exact⟨v,vs,rfl,D,hl⟩,by simpa using⟨h1,ho⟩,fun j u hj=> ?_⟩
  cases j with
  |zero=>simp at hj;subst hj;simpa using hv
  |succ j=>
   have:=hc j u (by simpa using hj)
   rwa[show o+1+j=o+(j+1) by omega] at this
theorem bw.of_row {a:Array Value} {T:TypeId} {l:Nat×Nat} (hb:w.heap[b]?=some (.cells a T l)) (hl:aC w M cs vs) (h1:∀ x∈vs,x.oneCell'=true) (hv:∀ j v,vs[j]?=some v->a[o+j]?=some v):bw w M cs b o:=by
 rw[bw.iff]
 intro i c hc
 obtain⟨v,r9,D⟩:=hl.get hc
 exact⟨v,by rw[cell_of_row w b _ a T l hb];exact hv i v r9,h1 v (SW r9),D⟩
end
theorem gi (b o n:Nat):(⟨b,o,none⟩:Addr).add n=⟨b,o+n,none⟩:=by
 unfold Addr.add;split<;>simp_all
def DV.cells?:DV->Option (List DV)
 | .agg cs=>some cs
 | .int k n=>some [.int k n]
 | .bool b=>some [.bool b]
 | .str s=>some [.str s]
 | .slice rows=>some [.slice rows]
 | .ptr cs=>some [.ptr cs]
 | .fn f caps=>some [.fn f caps]
 | .tup _=>none
 | .raw (.pointer none)=>some [.raw (.pointer none)]
 | .raw _=>none
 | .map _ _=>none
 | .err=>none
 | .any=>none
def SV.cells?:SV->Option (List SV)
 | .d v=>match v.cells? with|some cs=>some (cs.map .d)|none=>none
 | .nils=>some [.nils]
 | .agg cs=>some cs
 | .ref id off=>some [.ref id off]
 | .vec id=>some [.vec id]
 | .vref id sz i off=>some [.vref id sz i off]
 | .mp id=>some [.mp id]
 | .lit sz n cs=>some [.lit sz n cs]
 | .tup _=>none
 | .own _ _=>none
section
variable {w:World} {M:Nat->Prop} {κ:Nat->Value}
theorem aC.one {c:DV} (h:aW w M c v):aC w M [c] [v]:=by
 simp only[aC];exact⟨v,[],rfl,h,rfl⟩
theorem an.one {c:SV} (h:ai w M κ c v):an w M κ [c] [v]:=by
 simp only[an];exact⟨v,[],rfl,h,rfl⟩
theorem aW.cells {d:DV} (h:aW w M d v) (hc:d.cells?=some cs):∃ vs:List Value,v.cells=vs.toArray/\(∀ x∈vs,x.oneCell'=true)/\aC w M cs vs:=by
 cases d with
 |agg C=>
  simp only[DV.cells?,SN] at hc;subst hc
  unfold aW at h
  obtain⟨vs,rfl,h1,h2⟩:=h
  exact⟨vs,rfl,h1,h2⟩
 |tup _=>simp[DV.cells?] at hc
 |raw u=>
  by_cases hu:u= .pointer none
  ·subst hu
   simp only[DV.cells?,SN] at hc;subst hc
   unfold aW at h;subst h
   exact⟨[.pointer none],rfl,by simp[Value.oneCell'],by unfold aC;exact⟨_,_,rfl,by unfold aW;rfl,by unfold aC;rfl⟩⟩
  ·exfalso
   unfold DV.cells? at hc
   split at hc<;>first|(cases hc;done)|simp_all
 |map _ _=>simp[DV.cells?] at hc
 |any=>simp[DV.cells?] at hc
 |err=>simp[DV.cells?] at hc
 |int k n=>
  simp only[DV.cells?,SN] at hc;subst hc
  refine⟨[v], ?_, ?_,aC.one h⟩<;>(unfold aW at h;subst h;simp[Value.cells,Value.oneCell'])
 |bool b=>
  simp only[DV.cells?,SN] at hc;subst hc
  refine⟨[v], ?_, ?_,aC.one h⟩<;>(unfold aW at h;subst h;simp[Value.cells,Value.oneCell'])
 |str s=>
  simp only[DV.cells?,SN] at hc;subst hc
  refine⟨[v], ?_, ?_,aC.one h⟩<;>(unfold aW at h;subst h;simp[Value.cells,Value.oneCell'])
 |slice rows=>
  simp only[DV.cells?,SN] at hc;subst hc
  refine⟨[v], ?_, ?_,aC.one h⟩<;>(unfold aW at h;obtain⟨a,N,rfl,_⟩:=h;simp[Value.cells,Value.oneCell'])
 |ptr C=>
  simp only[DV.cells?,SN] at hc;subst hc
  refine⟨[v], ?_, ?_,aC.one h⟩<;>(unfold aW at h;obtain⟨a,N,rfl,_⟩:=h;simp[Value.cells,Value.oneCell'])
 |fn f caps=>
  simp only[DV.cells?,SN] at hc;subst hc
  refine⟨[v], ?_, ?_,aC.one h⟩<;>(unfold aW at h;obtain⟨vs,rfl,_⟩:=h;simp[Value.cells,Value.oneCell'])
theorem Jf (h:v.oneCell'=true):v.cells=[v].toArray:=by
 cases v<;>simp_all [Value.cells,Value.oneCell']
theorem ai.cells (hk:O6 κ) {x:SV} {cs:List SV} (h:ai w M κ x v) (hc:x.cells?=some cs):∃ vs:List Value,v.cells=vs.toArray/\(∀ x∈vs,x.oneCell'=true)/\an w M κ cs vs:=by
 have one:v.oneCell'=true->cs=[x]->∃ vs:List Value,v.cells=vs.toArray/\(∀ x∈vs,x.oneCell'=true)/\an w M κ cs vs:=fun h1 h2=>by
  subst h2
  exact⟨[v],Jf h1,by simpa using h1,an.one h⟩
 cases x with
 |d y=>
  unfold SV.cells? at hc
  cases hy:y.cells? with
  |none=>simp[hy] at hc
  |some J=>
   simp only[hy,SN] at hc
   subst hc
   unfold ai at h
   obtain⟨vs,h1,h2,E⟩:=h.cells hy
   exact⟨vs,h1,h2,an.of_d E⟩
 |agg C=>
  simp only[SV.cells?,SN] at hc;subst hc
  unfold ai at h
  obtain⟨vs,rfl,h1,h2⟩:=h
  exact⟨vs,rfl,h1,h2⟩
 |nils=>simp only[SV.cells?,SN] at hc;refine one ?_ hc.symm;unfold ai at h;subst h;rfl
 |ref id off=>simp only[SV.cells?,SN] at hc;refine one ?_ hc.symm;unfold ai at h;obtain⟨b,_,rfl⟩:=h;rfl
 |lit sz n cs=>simp only[SV.cells?,SN] at hc;refine one ?_ hc.symm;unfold ai at h;obtain⟨_,_,rfl,_⟩:=h;rfl
 |tup _=>simp[SV.cells?] at hc
 |own _ _=>simp[SV.cells?] at hc
 |vec id=>simp only[SV.cells?,SN] at hc;refine one ?_ hc.symm;unfold ai at h;subst h;exact hk id
 |vref id sz i off=>simp only[SV.cells?,SN] at hc;refine one ?_ hc.symm;unfold ai at h;obtain⟨b,_,_,_,rfl⟩:=h;rfl
 |mp id=>simp only[SV.cells?,SN] at hc;refine one ?_ hc.symm;unfold ai at h;subst h;exact hk id
theorem ap.length:∀ {cs:List SV} {vs:List Value} {F:List Nat},ap w M κ cs vs F->vs.length=cs.length
 |[],vs,F,h=>by unfold ap at h;simp[h]
 |c::cs,vs,F,h=>by
  unfold ap at h
  obtain⟨u,R,W,F2,rfl,_,_,h2⟩:=h
  simp[ap.length h2]
theorem ap.get:∀ {cs:List SV} {vs:List Value} {F:List Nat},ap w M κ cs vs F->∀ {i:Nat} {c:SV},cs[i]?=some c->∃ v G,vs[i]?=some v/\aO w M κ c v G
 |[],vs,F,h,i,c,hc=>by simp at hc
 |x::cs,vs,F,h,i,c,hc=>by
  unfold ap at h
  obtain⟨u,R,W,F2,rfl,_,h1,h2⟩:=h
  cases i with
  |zero=>simp at hc;subst hc;exact⟨u,W,by simp,h1⟩
  |succ i=>simp at hc;simpa using ap.get h2 hc
theorem ap.append {cs:List SV} {G:List Nat} (h:ap w M κ cs vs F) (k:ap w M κ J R G):ap w M κ (cs++J) (vs++R) (F++G):=by
 induction cs generalizing vs F with
 |nil=>unfold ap at h;obtain⟨rfl,rfl⟩:=h;simpa using k
 |cons c cs ih=>
  unfold ap at h
  obtain⟨u,g,W,F2,rfl,rfl,h1,h2⟩:=h
  show ap w M κ (c::(cs++J)) _ _
  unfold ap
  exact⟨u,g++R,W,F2++G,rfl,by simp,h1,ih h2⟩
theorem ap.split {cs:List SV} (h:ap w M κ (cs++J) vs F):∃ W F2,F=W++F2/\ap w M κ cs (vs.take cs.length) W/\ap w M κ J (vs.drop cs.length) F2:=by
 induction cs generalizing vs F with
 |nil=>exact⟨[],F,rfl,by simp[ap],by simpa using h⟩
 |cons c cs ih=>
  rw[Td] at h
  unfold ap at h
  obtain⟨u,g,W,F2,rfl,rfl,h1,h2⟩:=h
  obtain⟨G1,G2,rfl,E,h4⟩:=ih h2
  refine⟨W++G1,G2,by simp, ?_,by simpa using h4⟩
  simp only[ST,UH]
  unfold ap
  exact⟨u,_,W,G1,rfl,rfl,h1,E⟩
theorem ap.take {cs:List SV} (h:ap w M κ cs vs F) (n:Nat):∃ W,W.Sublist F/\ap w M κ (cs.take n) (vs.take n) W:=by
 have hl:=h.length
 rw[<-Tl n cs] at h
 obtain⟨W,F2,rfl,h1,h2⟩:=h.split
 refine⟨W,List.sublist_append_left _ _, ?_⟩
 by_cases hn:n<=cs.length
 ·rw[Th,show min n cs.length=n by omega] at h1;exact h1
 ·rw[Th,show min n cs.length=cs.length by omega] at h1
  rw[Tt (i:=n) (l:=vs) oM,Tt (i:=n) (l:=cs) oM] at *
  rwa[Tt oM] at h1
theorem ap.drop {cs:List SV} (h:ap w M κ cs vs F) (n:Nat):∃ W,W.Sublist F/\ap w M κ (cs.drop n) (vs.drop n) W:=by
 have hl:=h.length
 rw[<-Tl n cs] at h
 obtain⟨W,F2,rfl,h1,h2⟩:=h.split
 refine⟨F2,List.sublist_append_right _ _, ?_⟩
 by_cases hn:n<=cs.length
 ·rw[Th,show min n cs.length=n by omega] at h2;exact h2
 ·rw[Ui (i:=n) (l:=vs) oM,Ui (i:=n) (l:=cs) oM] at *
  rw[Th,show min n cs.length=cs.length by omega] at h2
  rwa[Ui oM] at h2
theorem ap.splice {cs a:List SV} (h:ap w M κ cs vs F) (k:an w M κ a R) (off:Nat):∃ W,W.Sublist F/\ap w M κ (cs.take off++a++cs.drop (off+a.length)) (vs.take off++R++vs.drop (off+R.length)) W:=by
 have r4:=k.length
 have hl:=h.length
 have key:∃ W F2,(W++F2).Sublist F/\ap w M κ (cs.take off) (vs.take off) W/\ap w M κ (cs.drop (off+a.length)) (vs.drop (off+R.length)) F2:=by
  rw[<-Tl off cs] at h
  obtain⟨W,F2,rfl,h1,h2⟩:=h.split
  obtain⟨b,E,h4⟩:=h2.drop a.length
  refine⟨W,b,Va (Uv _) E, ?_, ?_⟩
  ·by_cases hn:off<=cs.length
   ·rw[Th,show min off cs.length=off by omega] at h1;exact h1
   ·rw[Th,show min off cs.length=cs.length by omega] at h1
    rw[Tt (i:=off) (l:=vs) oM]
    rwa[Tt (l:=vs) oM] at h1
  ·rw[T4,T4] at h4
   by_cases hn:off<=cs.length
   ·rw[Th,show min off cs.length=off by omega] at h4
    rw[r4];exact h4
   ·rw[Ui (l:=cs) oM] at h4⊢
    rw[Ui (l:=vs) oM]
    have:=h4.length
    unfold ap at h4⊢
    exact⟨rfl,h4.2⟩
 obtain⟨W,F2,h0,h1,h2⟩:=key
 refine⟨W++F2,h0, ?_⟩
 have:=(h1.append (ap.of_S _ _ k)).append h2
 simpa using this
end
end Go.Proofs.YtgmnipfafmphaaaGreatDoor

