/-
  My text.
-/
import Derived.Test.YteaolfcegaidpaaGreatDoorSXEngB
namespace Go.Proofs.YteaolfcegaidpaaGreatDoor
set_option linter.unusedSimpArgs false
set_option linter.unusedVariables false
open Go.RowKit
section
variable {w:World} {M:Nat->Prop} {κ:Nat->Value}
theorem aB.length:∀ {cs:List DV} {vs:List Value},aB w M cs vs->vs.length=cs.length
 |[],vs,h=>by unfold aB at h;simp[h]
 |c::cs,vs,h=>by
  unfold aB at h
  obtain⟨u,us,rfl,_,h2⟩:=h
  simp[aB.length h2]
theorem aj.length:∀ {cs:List SV} {vs:List Value},aj w M κ cs vs->vs.length=cs.length
 |[],vs,h=>by unfold aj at h;simp[h]
 |c::cs,vs,h=>by
  unfold aj at h
  obtain⟨u,us,rfl,_,h2⟩:=h
  simp[aj.length h2]
theorem aB.get:∀ {cs:List DV} {vs:List Value},aB w M cs vs->∀ {i:Nat} {c:DV},cs[i]?=some c->∃ v,vs[i]?=some v/\aK w M c v
 |[],vs,h,i,c,hc=>by simp at hc
 |x::cs,vs,h,i,c,hc=>by
  unfold aB at h
  obtain⟨u,us,rfl,h1,h2⟩:=h
  cases i with
  |zero=>simp at hc;subst hc;exact⟨u,by simp,h1⟩
  |succ i=>simp at hc;simpa using aB.get h2 hc
theorem aj.get:∀ {cs:List SV} {vs:List Value},aj w M κ cs vs->∀ {i:Nat} {c:SV},cs[i]?=some c->∃ v,vs[i]?=some v/\af w M κ c v
 |[],vs,h,i,c,hc=>by simp at hc
 |x::cs,vs,h,i,c,hc=>by
  unfold aj at h
  obtain⟨u,us,rfl,h1,h2⟩:=h
  cases i with
  |zero=>simp at hc;subst hc;exact⟨u,by simp,h1⟩
  |succ i=>simp at hc;simpa using aj.get h2 hc
theorem aB.mk:∀ {cs:List DV} {vs:List Value},vs.length=cs.length->(∀ (i:Nat) (c:DV) (v:Value),cs[i]?=some c->vs[i]?=some v->aK w M c v)->aB w M cs vs
 |[],vs,hl,_=>by unfold aB;exact Ms.1 (by simpa using hl)
 |x::cs,[],hl,_=>by simp at hl
 |x::cs,v::vs,hl,h=>by
  unfold aB
  exact⟨v,vs,rfl,h 0 x v oS oS,aB.mk (by simpa using hl) fun i c u hc hu=>h (i+1) c u (by simpa using hc) (by simpa using hu)⟩
theorem aj.mk:∀ {cs:List SV} {vs:List Value},vs.length=cs.length->(∀ (i:Nat) (c:SV) (v:Value),cs[i]?=some c->vs[i]?=some v->af w M κ c v)->aj w M κ cs vs
 |[],vs,hl,_=>by unfold aj;exact Ms.1 (by simpa using hl)
 |x::cs,[],hl,_=>by simp at hl
 |x::cs,v::vs,hl,h=>by
  unfold aj
  exact⟨v,vs,rfl,h 0 x v oS oS,aj.mk (by simpa using hl) fun i c u hc hu=>h (i+1) c u (by simpa using hc) (by simpa using hu)⟩
theorem aB.append {cs ds:List DV} {vs us:List Value} (h:aB w M cs vs) (k:aB w M ds us):aB w M (cs++ds) (vs++us):=by
 induction cs generalizing vs with
 |nil=>unfold aB at h;subst h;simpa using k
 |cons c cs ih=>
  unfold aB at h
  obtain⟨u,us',rfl,h1,h2⟩:=h
  show aB w M (c::(cs++ds)) _
  unfold aB
  exact⟨u,us'++us,rfl,h1,ih h2⟩
theorem aj.append {cs ds:List SV} {vs us:List Value} (h:aj w M κ cs vs) (k:aj w M κ ds us):aj w M κ (cs++ds) (vs++us):=by
 induction cs generalizing vs with
 |nil=>unfold aj at h;subst h;simpa using k
 |cons c cs ih=>
  unfold aj at h
  obtain⟨u,us',rfl,h1,h2⟩:=h
  show aj w M κ (c::(cs++ds)) _
  unfold aj
  exact⟨u,us'++us,rfl,h1,ih h2⟩
theorem aB.take {cs:List DV} {vs:List Value} (h:aB w M cs vs) (n:Nat):aB w M (cs.take n) (vs.take n):=
 aB.mk (by simp[h.length]) fun i c v hc hv=>by
  simp only[Nc] at hc hv
  split at hc
  ·rename_i hi
   obtain⟨u,hu,hr⟩:=h.get hc
   simp only[hi,Nr] at hv
   rw[hu] at hv;simp at hv;subst hv;exact hr
  ·simp at hc
theorem aB.drop {cs:List DV} {vs:List Value} (h:aB w M cs vs) (n:Nat):aB w M (cs.drop n) (vs.drop n):=
 aB.mk (by simp[h.length]) fun i c v hc hv=>by
  simp only[M8] at hc hv
  obtain⟨u,hu,hr⟩:=h.get hc
  rw[hu] at hv;simp at hv;subst hv;exact hr
theorem aj.take {cs:List SV} {vs:List Value} (h:aj w M κ cs vs) (n:Nat):aj w M κ (cs.take n) (vs.take n):=
 aj.mk (by simp[h.length]) fun i c v hc hv=>by
  simp only[Nc] at hc hv
  split at hc
  ·rename_i hi
   obtain⟨u,hu,hr⟩:=h.get hc
   simp only[hi,Nr] at hv
   rw[hu] at hv;simp at hv;subst hv;exact hr
  ·simp at hc
theorem aj.drop {cs:List SV} {vs:List Value} (h:aj w M κ cs vs) (n:Nat):aj w M κ (cs.drop n) (vs.drop n):=
 aj.mk (by simp[h.length]) fun i c v hc hv=>by
  simp only[M8] at hc hv
  obtain⟨u,hu,hr⟩:=h.get hc
  rw[hu] at hv;simp at hv;subst hv;exact hr
theorem aj.of_d {cs:List DV} {vs:List Value} (h:aB w M cs vs):aj w M κ (cs.map .d) vs:=by
 induction cs generalizing vs with
 |nil=>unfold aB at h;unfold aj;exact h
 |cons c cs ih=>
  unfold aB at h
  obtain⟨u,us',rfl,h1,h2⟩:=h
  show aj w M κ (.d c::cs.map .d) _
  unfold aj af
  exact⟨u,us',rfl,h1,ih h2⟩
theorem bq.iff:∀ {cs:List DV} {b o:Nat},bq w M cs b o↔∀ (i:Nat) (c:DV),cs[i]?=some c->∃ v,w.cell? ⟨b,o+i,none⟩=some v/\v.oneCell'=true/\aK w M c v
 |[],b,o=>by unfold bq;simp
 |c::cs,b,o=>by
  unfold bq
  rw[bq.iff]
  constructor
  ·rintro⟨h1,h2⟩ i x hx
   cases i with
   |zero=>simp at hx;subst hx;simpa using h1
   |succ i=>
    have:=h2 i x (by simpa using hx)
    rwa[show o+1+i=o+(i+1) by omega] at this
  ·intro h
   refine⟨by simpa using h 0 c oS,fun i x hx=> ?_⟩
   have:=h (i+1) x (by simpa using hx)
   rwa[show o+(i+1)=o+1+i by omega] at this
theorem bq.cons {c:DV} {cs:List DV} {b o:Nat}:bq w M (c::cs) b o↔(∃ v,w.cell? ⟨b,o,none⟩=some v/\v.oneCell'=true/\aK w M c v)/\bq w M cs b (o+1):=by simp only[bq]
theorem bq.append {cs ds:List DV} {b o:Nat}:bq w M (cs++ds) b o↔bq w M cs b o/\bq w M ds b (o+cs.length):=by
 induction cs generalizing o with
 |nil=>simp[bq]
 |cons c cs ih=>
  show bq w M (c::(cs++ds)) b o↔_
  rw[bq.cons,bq.cons,ih,and_assoc,show o+1+cs.length=o+(c::cs).length by simp;omega]
theorem aL.iff:∀ {rs:List (List DV)} {b o sz:Nat},aL w M rs b o sz↔(∀ r∈rs,r.length=sz)/\bq w M rs.flatten b o
 |[],b,o,sz=>by simp[aL,bq]
 |r::rs,b,o,sz=>by
  unfold aL
  rw[aL.iff,MJ,bq.append]
  constructor
  ·rintro⟨rfl,h2,h3,h4⟩
   exact⟨by simpa using h3,h2,h4⟩
  ·rintro⟨h1,h2,h3⟩
   have:=h1 r oS
   subst this
   exact⟨rfl,h2,fun r' hr'=>h1 r' (by simp[hr']),h3⟩
theorem bq.drop {cs:List DV} {b o:Nat} (h:bq w M cs b o) (n:Nat):bq w M (cs.drop n) b (o+n):=by
 rw[bq.iff] at *
 intro i c hc
 rw[M8] at hc
 have:=h _ _ hc
 rwa[show o+(n+i)=o+n+i by omega] at this
theorem bq.values {cs:List DV} {b o:Nat} (h:bq w M cs b o):∃ vs:List Value,aB w M cs vs/\(∀ x∈vs,x.oneCell'=true)/\∀ j v,vs[j]?=some v->w.cell? ⟨b,o+j,none⟩=some v:=by
 induction cs generalizing o with
 |nil=>exact⟨[],by unfold aB;rfl,by simp,by simp⟩
 |cons c cs ih=>
  unfold bq at h
  obtain⟨⟨v,hv,h1,hr⟩,h2⟩:=h
  obtain⟨vs,hl,ho,hc⟩:=ih h2
  refine⟨v::vs,by unfold aB;exact⟨v,vs,rfl,hr,hl⟩,by simpa using⟨h1,ho⟩,fun j u hj=> ?_⟩
  cases j with
  |zero=>simp at hj;subst hj;simpa using hv
  |succ j=>
   have:=hc j u (by simpa using hj)
   rwa[show o+1+j=o+(j+1) by omega] at this
theorem bq.of_row {cs:List DV} {b o:Nat} {arr:Array Value} {T:TypeId} {fz:Nat×Nat} {vs:List Value} (hb:w.heap[b]?=some (.cells arr T fz)) (hl:aB w M cs vs) (h1:∀ x∈vs,x.oneCell'=true)
  (hv:∀ j v,vs[j]?=some v->arr[o+j]?=some v):bq w M cs b o:=by
 rw[bq.iff]
 intro i c hc
 obtain⟨v,hv',hr⟩:=hl.get hc
 exact⟨v,by rw[cell_of_row w b _ arr T fz hb];exact hv i v hv',h1 v (Mb hv'),hr⟩
end
theorem fE (b o n:Nat):(⟨b,o,none⟩:Addr).add n=⟨b,o+n,none⟩:=by
 unfold Addr.add;split<;>simp_all
def DV.cells?:DV->Option (List DV)
 | .agg cs=>some cs
 | .int k n=>some [.int k n]
 | .bool b=>some [.bool b]
 | .str s=>some [.str s]
 | .slice rows=>some [.slice rows]
 | .ptr cs=>some [.ptr cs]
 | .fn f caps=>some [.fn f caps]
 | .tup _=>none
 | .raw (.pointer none)=>some [.raw (.pointer none)]
 | .raw _=>none
 | .map _ _=>none
 | .err=>none
 | .any=>none
def SV.cells?:SV->Option (List SV)
 | .d v=>match v.cells? with|some cs=>some (cs.map .d)|none=>none
 | .nils=>some [.nils]
 | .agg cs=>some cs
 | .ref id off=>some [.ref id off]
 | .vec id=>some [.vec id]
 | .vref id sz i off=>some [.vref id sz i off]
 | .mp id=>some [.mp id]
 | .clo f ids=>some [.clo f ids]
 | .lit sz n cs=>some [.lit sz n cs]
 | .tup _=>none
 | .own _ _=>none
section
variable {w:World} {M:Nat->Prop} {κ:Nat->Value}
theorem aB.one {c:DV} {v:Value} (h:aK w M c v):aB w M [c] [v]:=by
 simp only[aB];exact⟨v,[],rfl,h,rfl⟩
theorem aj.one {c:SV} {v:Value} (h:af w M κ c v):aj w M κ [c] [v]:=by
 simp only[aj];exact⟨v,[],rfl,h,rfl⟩
theorem aK.cells {d:DV} {v:Value} {cs:List DV} (h:aK w M d v) (hc:d.cells?=some cs):∃ vs:List Value,v.cells=vs.toArray/\(∀ x∈vs,x.oneCell'=true)/\aB w M cs vs:=by
 cases d with
 |agg cs'=>
  simp only[DV.cells?,L7] at hc;subst hc
  unfold aK at h
  obtain⟨vs,rfl,h1,h2⟩:=h
  exact⟨vs,rfl,h1,h2⟩
 |tup _=>simp[DV.cells?] at hc
 |raw u=>
  by_cases hu:u= .pointer none
  ·subst hu
   simp only[DV.cells?,L7] at hc;subst hc
   unfold aK at h;subst h
   exact⟨[.pointer none],rfl,by simp[Value.oneCell'],by unfold aB;exact⟨_,_,rfl,by unfold aK;rfl,by unfold aB;rfl⟩⟩
  ·exfalso
   unfold DV.cells? at hc
   split at hc<;>first|(cases hc;done)|simp_all
 |map _ _=>simp[DV.cells?] at hc
 |any=>simp[DV.cells?] at hc
 |err=>simp[DV.cells?] at hc
 |int k n=>
  simp only[DV.cells?,L7] at hc;subst hc
  refine⟨[v], ?_, ?_,aB.one h⟩<;>(unfold aK at h;subst h;simp[Value.cells,Value.oneCell'])
 |bool b=>
  simp only[DV.cells?,L7] at hc;subst hc
  refine⟨[v], ?_, ?_,aB.one h⟩<;>(unfold aK at h;subst h;simp[Value.cells,Value.oneCell'])
 |str s=>
  simp only[DV.cells?,L7] at hc;subst hc
  refine⟨[v], ?_, ?_,aB.one h⟩<;>(unfold aK at h;subst h;simp[Value.cells,Value.oneCell'])
 |slice rows=>
  simp only[DV.cells?,L7] at hc;subst hc
  refine⟨[v], ?_, ?_,aB.one h⟩<;>(unfold aK at h;obtain⟨a,cap,rfl,_⟩:=h;simp[Value.cells,Value.oneCell'])
 |ptr cs'=>
  simp only[DV.cells?,L7] at hc;subst hc
  refine⟨[v], ?_, ?_,aB.one h⟩<;>(unfold aK at h;obtain⟨a,cap,rfl,_⟩:=h;simp[Value.cells,Value.oneCell'])
 |fn f caps=>
  simp only[DV.cells?,L7] at hc;subst hc
  refine⟨[v], ?_, ?_,aB.one h⟩<;>(unfold aK at h;obtain⟨vs,rfl,_⟩:=h;simp[Value.cells,Value.oneCell'])
theorem FY {v:Value} (h:v.oneCell'=true):v.cells=[v].toArray:=by
 cases v<;>simp_all [Value.cells,Value.oneCell']
theorem af.cells (hk:JJ κ) {x:SV} {v:Value} {cs:List SV} (h:af w M κ x v) (hc:x.cells?=some cs):∃ vs:List Value,v.cells=vs.toArray/\(∀ x∈vs,x.oneCell'=true)/\aj w M κ cs vs:=by
 have one:v.oneCell'=true->cs=[x]->∃ vs:List Value,v.cells=vs.toArray/\(∀ x∈vs,x.oneCell'=true)/\aj w M κ cs vs:=fun h1 h2=>by
  subst h2
  exact⟨[v],FY h1,by simpa using h1,aj.one h⟩
 cases x with
 |d y=>
  unfold SV.cells? at hc
  cases hy:y.cells? with
  |none=>simp[hy] at hc
  |some ds=>
   simp only[hy,L7] at hc
   subst hc
   unfold af at h
   obtain⟨vs,h1,h2,h3⟩:=h.cells hy
   exact⟨vs,h1,h2,aj.of_d h3⟩
 |agg cs'=>
  simp only[SV.cells?,L7] at hc;subst hc
  unfold af at h
  obtain⟨vs,rfl,h1,h2⟩:=h
  exact⟨vs,rfl,h1,h2⟩
 |nils=>simp only[SV.cells?,L7] at hc;refine one ?_ hc.symm;unfold af at h;subst h;rfl
 |ref id off=>simp only[SV.cells?,L7] at hc;refine one ?_ hc.symm;unfold af at h;obtain⟨b,_,rfl⟩:=h;rfl
 |lit sz n cs=>simp only[SV.cells?,L7] at hc;refine one ?_ hc.symm;unfold af at h;obtain⟨_,_,rfl,_⟩:=h;rfl
 |tup _=>simp[SV.cells?] at hc
 |own _ _=>simp[SV.cells?] at hc
 |vec id=>simp only[SV.cells?,L7] at hc;refine one ?_ hc.symm;unfold af at h;subst h;exact hk id
 |vref id sz i off=>simp only[SV.cells?,L7] at hc;refine one ?_ hc.symm;unfold af at h;obtain⟨b,_,_,_,rfl⟩:=h;rfl
 |mp id=>simp only[SV.cells?,L7] at hc;refine one ?_ hc.symm;unfold af at h;subst h;exact hk id
 |clo f ids=>simp only[SV.cells?,L7] at hc;refine one ?_ hc.symm;unfold af at h;obtain⟨rfl,_⟩:=h;rfl
theorem ao.length:∀ {cs:List SV} {vs:List Value} {F:List Nat},ao w M κ cs vs F->vs.length=cs.length
 |[],vs,F,h=>by unfold ao at h;simp[h]
 |c::cs,vs,F,h=>by
  unfold ao at h
  obtain⟨u,us,F1,F2,rfl,_,_,h2⟩:=h
  simp[ao.length h2]
theorem ao.get:∀ {cs:List SV} {vs:List Value} {F:List Nat},ao w M κ cs vs F->∀ {i:Nat} {c:SV},cs[i]?=some c->∃ v G,vs[i]?=some v/\aQ w M κ c v G
 |[],vs,F,h,i,c,hc=>by simp at hc
 |x::cs,vs,F,h,i,c,hc=>by
  unfold ao at h
  obtain⟨u,us,F1,F2,rfl,_,h1,h2⟩:=h
  cases i with
  |zero=>simp at hc;subst hc;exact⟨u,F1,by simp,h1⟩
  |succ i=>simp at hc;simpa using ao.get h2 hc
theorem ao.append {cs ds:List SV} {vs us:List Value} {F G:List Nat} (h:ao w M κ cs vs F) (k:ao w M κ ds us G):ao w M κ (cs++ds) (vs++us) (F++G):=by
 induction cs generalizing vs F with
 |nil=>unfold ao at h;obtain⟨rfl,rfl⟩:=h;simpa using k
 |cons c cs ih=>
  unfold ao at h
  obtain⟨u,us',F1,F2,rfl,rfl,h1,h2⟩:=h
  show ao w M κ (c::(cs++ds)) _ _
  unfold ao
  exact⟨u,us'++us,F1,F2++G,rfl,by simp,h1,ih h2⟩
theorem ao.split {cs ds:List SV} {vs:List Value} {F:List Nat} (h:ao w M κ (cs++ds) vs F):∃ F1 F2,F=F1++F2/\ao w M κ cs (vs.take cs.length) F1/\ao w M κ ds (vs.drop cs.length) F2:=by
 induction cs generalizing vs F with
 |nil=>exact⟨[],F,rfl,by simp[ao],by simpa using h⟩
 |cons c cs ih=>
  rw[Mn] at h
  unfold ao at h
  obtain⟨u,us',F1,F2,rfl,rfl,h1,h2⟩:=h
  obtain⟨G1,G2,rfl,h3,h4⟩:=ih h2
  refine⟨F1++G1,G2,by simp, ?_,by simpa using h4⟩
  simp only[Mv,NJ]
  unfold ao
  exact⟨u,_,F1,G1,rfl,rfl,h1,h3⟩
theorem ao.take {cs:List SV} {vs:List Value} {F:List Nat} (h:ao w M κ cs vs F) (n:Nat):∃ F1,F1.Sublist F/\ao w M κ (cs.take n) (vs.take n) F1:=by
 have hl:=h.length
 rw[<-MM n cs] at h
 obtain⟨F1,F2,rfl,h1,h2⟩:=h.split
 refine⟨F1,List.sublist_append_left _ _, ?_⟩
 by_cases hn:n<=cs.length
 ·rw[MK,show min n cs.length=n by omega] at h1;exact h1
 ·rw[MK,show min n cs.length=cs.length by omega] at h1
  rw[MF (i:=n) (l:=vs) oM,MF (i:=n) (l:=cs) oM] at *
  rwa[MF oM] at h1
theorem ao.drop {cs:List SV} {vs:List Value} {F:List Nat} (h:ao w M κ cs vs F) (n:Nat):∃ F1,F1.Sublist F/\ao w M κ (cs.drop n) (vs.drop n) F1:=by
 have hl:=h.length
 rw[<-MM n cs] at h
 obtain⟨F1,F2,rfl,h1,h2⟩:=h.split
 refine⟨F2,List.sublist_append_right _ _, ?_⟩
 by_cases hn:n<=cs.length
 ·rw[MK,show min n cs.length=n by omega] at h2;exact h2
 ·rw[Nn (i:=n) (l:=vs) oM,Nn (i:=n) (l:=cs) oM] at *
  rw[MK,show min n cs.length=cs.length by omega] at h2
  rwa[Nn oM] at h2
theorem ao.splice {cs ns:List SV} {vs us:List Value} {F:List Nat} (h:ao w M κ cs vs F) (k:aj w M κ ns us) (off:Nat):∃ F1,F1.Sublist F/\ao w M κ (cs.take off++ns++cs.drop (off+ns.length)) (vs.take off++us++vs.drop (off+us.length)) F1:=by
 have hul:=k.length
 have hl:=h.length
 have key:∃ F1 F2,(F1++F2).Sublist F/\ao w M κ (cs.take off) (vs.take off) F1/\ao w M κ (cs.drop (off+ns.length)) (vs.drop (off+us.length)) F2:=by
  rw[<-MM off cs] at h
  obtain⟨F1,F2,rfl,h1,h2⟩:=h.split
  obtain⟨F3,h3,h4⟩:=h2.drop ns.length
  refine⟨F1,F3,N0 (NS _) h3, ?_, ?_⟩
  ·by_cases hn:off<=cs.length
   ·rw[MK,show min off cs.length=off by omega] at h1;exact h1
   ·rw[MK,show min off cs.length=cs.length by omega] at h1
    rw[MF (i:=off) (l:=vs) oM]
    rwa[MF (l:=vs) oM] at h1
  ·rw[Ns,Ns] at h4
   by_cases hn:off<=cs.length
   ·rw[MK,show min off cs.length=off by omega] at h4
    rw[hul];exact h4
   ·rw[Nn (l:=cs) oM] at h4⊢
    rw[Nn (l:=vs) oM]
    have:=h4.length
    unfold ao at h4⊢
    exact⟨rfl,h4.2⟩
 obtain⟨F1,F2,h0,h1,h2⟩:=key
 refine⟨F1++F2,h0, ?_⟩
 have:=(h1.append (ao.of_S _ _ k)).append h2
 simpa using this
end
