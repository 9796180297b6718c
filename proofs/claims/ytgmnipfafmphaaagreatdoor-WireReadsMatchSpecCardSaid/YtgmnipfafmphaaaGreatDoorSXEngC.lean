/-
  My text.
-/
import Derived.Test.YtgmnipfafmphaaaGreatDoorSXEngB
namespace Go.Proofs.YtgmnipfafmphaaaGreatDoor
set_option linter.unusedVariables false
open Go.RowKit
variable {F:List Nat} {J:List SV} {X:List Value} {b:Nat} {cs:List DV} {o:Nat} {v:Value} {vs:List Value}
section
variable {w:World} {M:Nat->Prop} {κ:Nat->Value}
theorem aM.length:∀ {cs:List DV} {vs:List Value},aM w M cs vs->vs.length=cs.length
 |[],vs,h=>by unfold aM at h;simp[h]
 |c::cs,vs,h=>by
  unfold aM at h
  obtain⟨u,X,rfl,_,h2⟩:=h
  simp[aM.length h2]
theorem av.length:∀ {cs:List SV} {vs:List Value},av w M κ cs vs->vs.length=cs.length
 |[],vs,h=>by unfold av at h;simp[h]
 |c::cs,vs,h=>by
  unfold av at h
  obtain⟨u,X,rfl,_,h2⟩:=h
  simp[av.length h2]
theorem aM.get:∀ {cs:List DV} {vs:List Value},aM w M cs vs->∀ {i:Nat} {c:DV},cs[i]?=some c->∃ v,vs[i]?=some v/\bf w M c v
 |[],vs,h,i,c,hc=>by simp at hc
 |x::cs,vs,h,i,c,hc=>by
  unfold aM at h
  obtain⟨u,X,rfl,h1,h2⟩:=h
  cases i with
  |zero=>simp at hc;subst hc;exact⟨u,by simp,h1⟩
  |succ i=>simp at hc;simpa using aM.get h2 hc
theorem av.get:∀ {cs:List SV} {vs:List Value},av w M κ cs vs->∀ {i:Nat} {c:SV},cs[i]?=some c->∃ v,vs[i]?=some v/\al w M κ c v
 |[],vs,h,i,c,hc=>by simp at hc
 |x::cs,vs,h,i,c,hc=>by
  unfold av at h
  obtain⟨u,X,rfl,h1,h2⟩:=h
  cases i with
  |zero=>simp at hc;subst hc;exact⟨u,by simp,h1⟩
  |succ i=>simp at hc;simpa using av.get h2 hc
theorem aM.mk:∀ {cs:List DV} {vs:List Value},vs.length=cs.length->(∀ (i:Nat) (c:DV) (v:Value),cs[i]?=some c->vs[i]?=some v->bf w M c v)->aM w M cs vs
 |[],vs,hl,_=>by unfold aM;exact Vx.1 (by simpa using hl)
 |x::cs,[],hl,_=>by simp at hl
 |x::cs,v::vs,hl,h=>by
  unfold aM
  exact⟨v,vs,rfl,h 0 x v oS oS,aM.mk (by simpa using hl) fun i c u hc hu=>h (i+1) c u (by simpa using hc) (by simpa using hu)⟩
theorem av.mk:∀ {cs:List SV} {vs:List Value},vs.length=cs.length->(∀ (i:Nat) (c:SV) (v:Value),cs[i]?=some c->vs[i]?=some v->al w M κ c v)->av w M κ cs vs
 |[],vs,hl,_=>by unfold av;exact Vx.1 (by simpa using hl)
 |x::cs,[],hl,_=>by simp at hl
 |x::cs,v::vs,hl,h=>by
  unfold av
  exact⟨v,vs,rfl,h 0 x v oS oS,av.mk (by simpa using hl) fun i c u hc hu=>h (i+1) c u (by simpa using hc) (by simpa using hu)⟩
theorem aM.append {J:List DV} (h:aM w M cs vs) (k:aM w M J X):aM w M (cs++J) (vs++X):=by
 induction cs generalizing vs with
 |nil=>unfold aM at h;subst h;simpa using k
 |cons c cs ih=>
  unfold aM at h
  obtain⟨u,g,rfl,h1,h2⟩:=h
  show aM w M (c::(cs++J)) _
  unfold aM
  exact⟨u,g++X,rfl,h1,ih h2⟩
theorem av.append {cs:List SV} (h:av w M κ cs vs) (k:av w M κ J X):av w M κ (cs++J) (vs++X):=by
 induction cs generalizing vs with
 |nil=>unfold av at h;subst h;simpa using k
 |cons c cs ih=>
  unfold av at h
  obtain⟨u,g,rfl,h1,h2⟩:=h
  show av w M κ (c::(cs++J)) _
  unfold av
  exact⟨u,g++X,rfl,h1,ih h2⟩
theorem aM.take (h:aM w M cs vs) (n:Nat):aM w M (cs.take n) (vs.take n):=
 aM.mk (by simp[h.length]) fun i c v hc hv=>by
  simp only[WE] at hc hv
  split at hc
  ·rename_i hi
   obtain⟨u,hu,D⟩:=h.get hc
   simp only[hi,VW] at hv
   rw[hu] at hv;simp at hv;subst hv;exact D
  ·simp at hc
theorem aM.drop (h:aM w M cs vs) (n:Nat):aM w M (cs.drop n) (vs.drop n):=
 aM.mk (by simp[h.length]) fun i c v hc hv=>by
  simp only[Wp] at hc hv
  obtain⟨u,hu,D⟩:=h.get hc
  rw[hu] at hv;simp at hv;subst hv;exact D
theorem av.take {cs:List SV} (h:av w M κ cs vs) (n:Nat):av w M κ (cs.take n) (vs.take n):=
 av.mk (by simp[h.length]) fun i c v hc hv=>by
  simp only[WE] at hc hv
  split at hc
  ·rename_i hi
   obtain⟨u,hu,D⟩:=h.get hc
   simp only[hi,VW] at hv
   rw[hu] at hv;simp at hv;subst hv;exact D
  ·simp at hc
theorem av.drop {cs:List SV} (h:av w M κ cs vs) (n:Nat):av w M κ (cs.drop n) (vs.drop n):=
 av.mk (by simp[h.length]) fun i c v hc hv=>by
  simp only[Wp] at hc hv
  obtain⟨u,hu,D⟩:=h.get hc
  rw[hu] at hv;simp at hv;subst hv;exact D
theorem av.of_d (h:aM w M cs vs):av w M κ (cs.map .d) vs:=by
 induction cs generalizing vs with
 |nil=>unfold aM at h;unfold av;exact h
 |cons c cs ih=>
  unfold aM at h
  obtain⟨u,g,rfl,h1,h2⟩:=h
  show av w M κ (.d c::cs.map .d) _
  unfold av al
  exact⟨u,g,rfl,h1,ih h2⟩
theorem b4.iff:∀ {cs:List DV} {b o:Nat},b4 w M cs b o↔∀ (i:Nat) (c:DV),cs[i]?=some c->∃ v,w.cell? ⟨b,o+i,none⟩=some v/\v.oneCell'=true/\bf w M c v
 |[],b,o=>by unfold b4;simp
 |c::cs,b,o=>by
  unfold b4
  rw[b4.iff]
  constructor
  ·rintro⟨h1,h2⟩ i x hx
   cases i with
   |zero=>simp at hx;subst hx;simpa using h1
   |succ i=>
    have:=h2 i x (by simpa using hx)
    rwa[show o+1+i=o+(i+1) by omega] at this
  ·intro h
   refine⟨by simpa using h 0 c oS,fun i x hx=> ?_⟩
   have:=h (i+1) x (by simpa using hx)
   rwa[show o+(i+1)=o+1+i by omega] at this
theorem b4.cons {c:DV} {cs:List DV} {b o:Nat}:b4 w M (c::cs) b o↔(∃ v,w.cell? ⟨b,o,none⟩=some v/\v.oneCell'=true/\bf w M c v)/\b4 w M cs b (o+1):=by simp only[b4]
theorem b4.append {J:List DV}:b4 w M (cs++J) b o↔b4 w M cs b o/\b4 w M J b (o+cs.length):=by
 induction cs generalizing o with
 |nil=>simp[b4]
 |cons c cs ih=>
  show b4 w M (c::(cs++J)) b o↔_
  rw[b4.cons,b4.cons,ih,and_assoc,show o+1+cs.length=o+(c::cs).length by simp;omega]
theorem bd.iff:∀ {rs:List (List DV)} {b o sz:Nat},bd w M rs b o sz↔(∀ r∈rs,r.length=sz)/\b4 w M rs.flatten b o
 |[],b,o,sz=>by simp[bd,b4]
 |r::rs,b,o,sz=>by
  unfold bd
  rw[bd.iff,V4,b4.append]
  constructor
  ·rintro⟨rfl,h2,E,h4⟩
   exact⟨by simpa using E,h2,h4⟩
  ·rintro⟨h1,h2,E⟩
   have:=h1 r oS
   subst this
   exact⟨rfl,h2,fun J h8=>h1 J (by simp[h8]),E⟩
theorem b4.drop (h:b4 w M cs b o) (n:Nat):b4 w M (cs.drop n) b (o+n):=by
 rw[b4.iff] at *
 intro i c hc
 rw[Wp] at hc
 have:=h _ _ hc
 rwa[show o+(n+i)=o+n+i by omega] at this
theorem b4.values (h:b4 w M cs b o):∃ vs:List Value,aM w M cs vs/\(∀ x∈vs,x.oneCell'=true)/\∀ j v,vs[j]?=some v->w.cell? ⟨b,o+j,none⟩=some v:=by
 induction cs generalizing o with
 |nil=>exact⟨[],by unfold aM;rfl,by simp,by simp⟩
 |cons c cs ih=>
  unfold b4 at h
  obtain⟨⟨v,hv,h1,D⟩,h2⟩:=h
  obtain⟨vs,hl,ho,hc⟩:=ih h2
  refine⟨v::vs,by unfold aM;exact⟨v,vs,rfl,D,hl⟩,by simpa using⟨h1,ho⟩,fun j u hj=> ?_⟩
  cases j with
  |zero=>simp at hj;subst hj;simpa using hv
  |succ j=>
   have:=hc j u (by simpa using hj)
   rwa[show o+1+j=o+(j+1) by omega] at this
theorem b4.of_row {a:Array Value} {T:TypeId} {d:Nat×Nat} (hb:w.heap[b]?=some (.cells a T d)) (hl:aM w M cs vs) (h1:∀ x∈vs,x.oneCell'=true) (hv:∀ j v,vs[j]?=some v->a[o+j]?=some v):b4 w M cs b o:=by
 rw[b4.iff]
 intro i c hc
 obtain⟨v,r7,D⟩:=hl.get hc
 exact⟨v,by rw[cell_of_row w b _ a T d hb];exact hv i v r7,h1 v (Vq r7),D⟩
end
theorem iC (b o n:Nat):(⟨b,o,none⟩:Addr).add n=⟨b,o+n,none⟩:=by
 unfold Addr.add;split<;>simp_all
def DV.cells?:DV->Option (List DV)
 | .agg cs=>some cs
 | .int k n=>some [.int k n]
 | .bool b=>some [.bool b]
 | .str s=>some [.str s]
 | .slice rows=>some [.slice rows]
 | .ptr cs=>some [.ptr cs]
 | .fn f caps=>some [.fn f caps]
 | .tup _=>none
 | .raw (.pointer none)=>some [.raw (.pointer none)]
 | .raw _=>none
 | .map _ _=>none
 | .err=>none
 | .any=>none
def SV.cells?:SV->Option (List SV)
 | .d v=>match v.cells? with|some cs=>some (cs.map .d)|none=>none
 | .nils=>some [.nils]
 | .agg cs=>some cs
 | .ref id off=>some [.ref id off]
 | .vec id=>some [.vec id]
 | .vref id sz i off=>some [.vref id sz i off]
 | .mp id=>some [.mp id]
 | .lit sz n cs=>some [.lit sz n cs]
 | .tup _=>none
 | .own _ _=>none
section
variable {w:World} {M:Nat->Prop} {κ:Nat->Value}
theorem aM.one {c:DV} (h:bf w M c v):aM w M [c] [v]:=by
 simp only[aM];exact⟨v,[],rfl,h,rfl⟩
theorem av.one {c:SV} (h:al w M κ c v):av w M κ [c] [v]:=by
 simp only[av];exact⟨v,[],rfl,h,rfl⟩
theorem bf.cells {d:DV} (h:bf w M d v) (hc:d.cells?=some cs):∃ vs:List Value,v.cells=vs.toArray/\(∀ x∈vs,x.oneCell'=true)/\aM w M cs vs:=by
 cases d with
 |agg C=>
  simp only[DV.cells?,Vi] at hc;subst hc
  unfold bf at h
  obtain⟨vs,rfl,h1,h2⟩:=h
  exact⟨vs,rfl,h1,h2⟩
 |tup _=>simp[DV.cells?] at hc
 |raw u=>
  by_cases hu:u= .pointer none
  ·subst hu
   simp only[DV.cells?,Vi] at hc;subst hc
   unfold bf at h;subst h
   exact⟨[.pointer none],rfl,by simp[Value.oneCell'],by unfold aM;exact⟨_,_,rfl,by unfold bf;rfl,by unfold aM;rfl⟩⟩
  ·exfalso
   unfold DV.cells? at hc
   split at hc<;>first|(cases hc;done)|simp_all
 |map _ _=>simp[DV.cells?] at hc
 |any=>simp[DV.cells?] at hc
 |err=>simp[DV.cells?] at hc
 |int k n=>
  simp only[DV.cells?,Vi] at hc;subst hc
  refine⟨[v], ?_, ?_,aM.one h⟩<;>(unfold bf at h;subst h;simp[Value.cells,Value.oneCell'])
 |bool b=>
  simp only[DV.cells?,Vi] at hc;subst hc
  refine⟨[v], ?_, ?_,aM.one h⟩<;>(unfold bf at h;subst h;simp[Value.cells,Value.oneCell'])
 |str s=>
  simp only[DV.cells?,Vi] at hc;subst hc
  refine⟨[v], ?_, ?_,aM.one h⟩<;>(unfold bf at h;subst h;simp[Value.cells,Value.oneCell'])
 |slice rows=>
  simp only[DV.cells?,Vi] at hc;subst hc
  refine⟨[v], ?_, ?_,aM.one h⟩<;>(unfold bf at h;obtain⟨a,N,rfl,_⟩:=h;simp[Value.cells,Value.oneCell'])
 |ptr C=>
  simp only[DV.cells?,Vi] at hc;subst hc
  refine⟨[v], ?_, ?_,aM.one h⟩<;>(unfold bf at h;obtain⟨a,N,rfl,_⟩:=h;simp[Value.cells,Value.oneCell'])
 |fn f caps=>
  simp only[DV.cells?,Vi] at hc;subst hc
  refine⟨[v], ?_, ?_,aM.one h⟩<;>(unfold bf at h;obtain⟨vs,rfl,_⟩:=h;simp[Value.cells,Value.oneCell'])
theorem Ln (h:v.oneCell'=true):v.cells=[v].toArray:=by
 cases v<;>simp_all [Value.cells,Value.oneCell']
theorem al.cells (hk:QR κ) {x:SV} {cs:List SV} (h:al w M κ x v) (hc:x.cells?=some cs):∃ vs:List Value,v.cells=vs.toArray/\(∀ x∈vs,x.oneCell'=true)/\av w M κ cs vs:=by
 have one:v.oneCell'=true->cs=[x]->∃ vs:List Value,v.cells=vs.toArray/\(∀ x∈vs,x.oneCell'=true)/\av w M κ cs vs:=fun h1 h2=>by
  subst h2
  exact⟨[v],Ln h1,by simpa using h1,av.one h⟩
 cases x with
 |d y=>
  unfold SV.cells? at hc
  cases hy:y.cells? with
  |none=>simp[hy] at hc
  |some J=>
   simp only[hy,Vi] at hc
   subst hc
   unfold al at h
   obtain⟨vs,h1,h2,E⟩:=h.cells hy
   exact⟨vs,h1,h2,av.of_d E⟩
 |agg C=>
  simp only[SV.cells?,Vi] at hc;subst hc
  unfold al at h
  obtain⟨vs,rfl,h1,h2⟩:=h
  exact⟨vs,rfl,h1,h2⟩
 |nils=>simp only[SV.cells?,Vi] at hc;refine one ?_ hc.symm;unfold al at h;subst h;rfl
 |ref id off=>simp only[SV.cells?,Vi] at hc;refine one ?_ hc.symm;unfold al at h;obtain⟨b,_,rfl⟩:=h;rfl
 |lit sz n cs=>simp only[SV.cells?,Vi] at hc;refine one ?_ hc.symm;unfold al at h;obtain⟨_,_,rfl,_⟩:=h;rfl
 |tup _=>simp[SV.cells?] at hc
 |own _ _=>simp[SV.cells?] at hc
 |vec id=>simp only[SV.cells?,Vi] at hc;refine one ?_ hc.symm;unfold al at h;subst h;exact hk id
 |vref id sz i off=>simp only[SV.cells?,Vi] at hc;refine one ?_ hc.symm;unfold al at h;obtain⟨b,_,_,_,rfl⟩:=h;rfl
 |mp id=>simp only[SV.cells?,Vi] at hc;refine one ?_ hc.symm;unfold al at h;subst h;exact hk id
theorem az.length:∀ {cs:List SV} {vs:List Value} {F:List Nat},az w M κ cs vs F->vs.length=cs.length
 |[],vs,F,h=>by unfold az at h;simp[h]
 |c::cs,vs,F,h=>by
  unfold az at h
  obtain⟨u,X,N,R,rfl,_,_,h2⟩:=h
  simp[az.length h2]
theorem az.get:∀ {cs:List SV} {vs:List Value} {F:List Nat},az w M κ cs vs F->∀ {i:Nat} {c:SV},cs[i]?=some c->∃ v G,vs[i]?=some v/\aT w M κ c v G
 |[],vs,F,h,i,c,hc=>by simp at hc
 |x::cs,vs,F,h,i,c,hc=>by
  unfold az at h
  obtain⟨u,X,N,R,rfl,_,h1,h2⟩:=h
  cases i with
  |zero=>simp at hc;subst hc;exact⟨u,N,by simp,h1⟩
  |succ i=>simp at hc;simpa using az.get h2 hc
theorem az.append {cs:List SV} {G:List Nat} (h:az w M κ cs vs F) (k:az w M κ J X G):az w M κ (cs++J) (vs++X) (F++G):=by
 induction cs generalizing vs F with
 |nil=>unfold az at h;obtain⟨rfl,rfl⟩:=h;simpa using k
 |cons c cs ih=>
  unfold az at h
  obtain⟨u,g,N,R,rfl,rfl,h1,h2⟩:=h
  show az w M κ (c::(cs++J)) _ _
  unfold az
  exact⟨u,g++X,N,R++G,rfl,by simp,h1,ih h2⟩
theorem az.split {cs:List SV} (h:az w M κ (cs++J) vs F):∃ N R,F=N++R/\az w M κ cs (vs.take cs.length) N/\az w M κ J (vs.drop cs.length) R:=by
 induction cs generalizing vs F with
 |nil=>exact⟨[],F,rfl,by simp[az],by simpa using h⟩
 |cons c cs ih=>
  rw[VG] at h
  unfold az at h
  obtain⟨u,g,N,R,rfl,rfl,h1,h2⟩:=h
  obtain⟨G1,G2,rfl,E,h4⟩:=ih h2
  refine⟨N++G1,G2,by simp, ?_,by simpa using h4⟩
  simp only[Vk,Xd]
  unfold az
  exact⟨u,_,N,G1,rfl,rfl,h1,E⟩
theorem az.take {cs:List SV} (h:az w M κ cs vs F) (n:Nat):∃ N,N.Sublist F/\az w M κ (cs.take n) (vs.take n) N:=by
 have hl:=h.length
 rw[<-VH n cs] at h
 obtain⟨N,R,rfl,h1,h2⟩:=h.split
 refine⟨N,List.sublist_append_left _ _, ?_⟩
 by_cases hn:n<=cs.length
 ·rw[VA,show min n cs.length=n by omega] at h1;exact h1
 ·rw[VA,show min n cs.length=cs.length by omega] at h1
  rw[VO (i:=n) (l:=vs) oM,VO (i:=n) (l:=cs) oM] at *
  rwa[VO oM] at h1
theorem az.drop {cs:List SV} (h:az w M κ cs vs F) (n:Nat):∃ N,N.Sublist F/\az w M κ (cs.drop n) (vs.drop n) N:=by
 have hl:=h.length
 rw[<-VH n cs] at h
 obtain⟨N,R,rfl,h1,h2⟩:=h.split
 refine⟨R,List.sublist_append_right _ _, ?_⟩
 by_cases hn:n<=cs.length
 ·rw[VA,show min n cs.length=n by omega] at h2;exact h2
 ·rw[WL (i:=n) (l:=vs) oM,WL (i:=n) (l:=cs) oM] at *
  rw[VA,show min n cs.length=cs.length by omega] at h2
  rwa[WL oM] at h2
theorem az.splice {cs a:List SV} (h:az w M κ cs vs F) (k:av w M κ a X) (off:Nat):∃ N,N.Sublist F/\az w M κ (cs.take off++a++cs.drop (off+a.length)) (vs.take off++X++vs.drop (off+X.length)) N:=by
 have s2:=k.length
 have hl:=h.length
 have key:∃ N R,(N++R).Sublist F/\az w M κ (cs.take off) (vs.take off) N/\az w M κ (cs.drop (off+a.length)) (vs.drop (off+X.length)) R:=by
  rw[<-VH off cs] at h
  obtain⟨N,R,rfl,h1,h2⟩:=h.split
  obtain⟨b,E,h4⟩:=h2.drop a.length
  refine⟨N,b,XF (W3 _) E, ?_, ?_⟩
  ·by_cases hn:off<=cs.length
   ·rw[VA,show min off cs.length=off by omega] at h1;exact h1
   ·rw[VA,show min off cs.length=cs.length by omega] at h1
    rw[VO (i:=off) (l:=vs) oM]
    rwa[VO (l:=vs) oM] at h1
  ·rw[Wr,Wr] at h4
   by_cases hn:off<=cs.length
   ·rw[VA,show min off cs.length=off by omega] at h4
    rw[s2];exact h4
   ·rw[WL (l:=cs) oM] at h4⊢
    rw[WL (l:=vs) oM]
    have:=h4.length
    unfold az at h4⊢
    exact⟨rfl,h4.2⟩
 obtain⟨N,R,h0,h1,h2⟩:=key
 refine⟨N++R,h0, ?_⟩
 have:=(h1.append (az.of_S _ _ k)).append h2
 simpa using this
end
