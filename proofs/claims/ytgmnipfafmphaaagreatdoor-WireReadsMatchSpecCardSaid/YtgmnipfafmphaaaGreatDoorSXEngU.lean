/-
  My text.
-/
import Derived.Test.YtgmnipfafmphaaaGreatDoorSXEngM
namespace Go.Proofs.YtgmnipfafmphaaaGreatDoor
set_option linter.unusedSimpArgs false
set_option linter.unusedVariables false
open Go.RowKit
variable {A:Type} {H:Nat} {J:List Nat} {P:Program} {R S:Type} {b:Bool} {d d2:Nat} {l:List SO} {m1:Option Bool} {post:List SO} {t u:Nat} {α:Type} {f:S->Option (S⊕A)} {k:Bool->Option R} {r:R}
def oF {S A:Type} (f:S->Option (S⊕A)):Nat->S->Option A
 |0,_=>none
 |n+1,s=>match f s with
  |some (.inl s')=>oF f n s'
  |some (.inr a)=>some a
  |none=>none
theorem yB {S A:Type} {f:S->Option (S⊕A)} {a:A}:∀ {n m:Nat} {s:S},n<=m->oF f n s=some a->oF f m s=some a
 |0,_,_,_,h=>by simp[oF] at h
 |n+1,0,_,h,_=>by omega
 |n+1,m+1,s,h,hl=>by
  simp only[oF] at hl⊢
  split at hl
  ·exact yB oM hl
  ·exact hl
  ·cases hl
open Classical in
noncomputable def bn (f:S->Option (S⊕A)) (s:S):Option A:=
 if h:∃ n,(oF f n s).isSome=true then oF f (Classical.choose h) s else none
theorem yC {s:S} {a:A}:bn f s=some a↔∃ n,oF f n s=some a:=by
 unfold bn
 constructor
 ·intro h
  split at h
  ·exact⟨_,h⟩
  ·cases h
 ·rintro⟨n,hn⟩
  have b:∃ n,(oF f n s).isSome=true:=⟨n,by rw[hn];rfl⟩
  rw[dif_pos b]
  have hc:=Classical.choose_spec b
  obtain⟨a',e⟩:=Wo.1 hc
  rw[e]
  have h1:=yB (Nat.le_max_left n (Classical.choose b)) hn
  have h2:=yB (Nat.le_max_right n (Classical.choose b)) e
  rw[h1] at h2;exact h2.symm
theorem bS (f:S->Option (S⊕A)) (s:S):bn f s=match f s with
  |some (.inl s')=>bn f s'
  |some (.inr a)=>some a
  |none=>none:=by
 apply Option.ext
 intro a
 rw[yC]
 cases C:f s with
 |none=>
  constructor
  ·rintro⟨n,hn⟩
   cases n<;>simp[oF,C] at hn
  ·intro h;cases h
 |some o=>
  cases o with
  |inl s'=>
   simp only
   rw[yC]
   constructor
   ·rintro⟨n,hn⟩
    cases n with
    |zero=>simp[oF] at hn
    |succ n=>exact⟨n,by simpa only[oF,C] using hn⟩
   ·rintro⟨n,hn⟩
    exact⟨n+1,by simpa only[oF,C] using hn⟩
  |inr a'=>
   simp only
   constructor
   ·rintro⟨n,hn⟩
    cases n with
    |zero=>simp[oF] at hn
    |succ n=>simpa only[oF,C] using hn
   ·intro hn
    exact⟨1,by simpa only[oF,C] using hn⟩
theorem LO (I:S->Prop) (g:S->Nat) (b:A->Prop) (hs:∀ s,I s->(∃ s',f s=some (.inl s')/\I s'/\g s'<g s)\/∃ a,f s=some (.inr a)/\b a) {s:S} (h0:I s):∃ a,bn f s=some a/\b a:=by
 have:∀ n s,g s<=n->I s->∃ a,bn f s=some a/\b a:=by
  intro n
  induction n with
  |zero=>
   intro s hn hI
   rcases hs s hI with⟨s',h1,h2,E⟩|⟨a,h1,h2⟩
   ·omega
   ·exact⟨a,by rw[bS,h1],h2⟩
  |succ n ih=>
   intro s hn hI
   rcases hs s hI with⟨s',h1,h2,E⟩|⟨a,h1,h2⟩
   ·obtain⟨a,ha,Y⟩:=ih s' oM h2
    exact⟨a,by rw[bS,h1];exact ha,Y⟩
   ·exact⟨a,by rw[bS,h1],h2⟩
 exact this _ s (Vs _) h0
def aV (l:List α) (i:Int):Option α:=if 0<=i then l[i.toNat]? else none
def b5 (l:List α) (lo hi:Int):Option (List α):=if 0<=lo/\lo<=hi/\hi<=l.length then some ((l.take hi.toNat).drop lo.toNat) else none
def lD (b:Bool) (m:Option Bool):Option Bool:=bif b then m else some false
def IU (b:Bool) (m:Option Bool):Option Bool:=bif b then some true else m
section
variable {P:Program} {s:Nat->SV} {h:Nat->Ch} {K q:St->Prop} {sos:List SO}
theorem xn (hk:∀ σ,K σ->q σ):∀ {so:SO} {σ:St},AO P so σ K->AO P so σ q
 | .r dst op,σ,h=>by
  simp only[AO] at h⊢
  split at h
  ·exact⟨h.1,hk _ h.2⟩
  ·exact h
 | .c dst f args,σ,h=>by
  simp only[AO] at h⊢
  split at h
  ·obtain⟨res,h1,h2,E⟩:=h;exact⟨res,h1,h2,hk _ E⟩
  ·exact h
 | .o dst op,σ,h=>by
  obtain⟨z,h1,p,v,h2,E,h4⟩:=h;exact⟨z,h1,p,v,h2,E,hk _ h4⟩
 | .w dst op,σ,h=>by
  obtain⟨z,h1,p,v,h2,E,h4⟩:=h;exact⟨z,h1,p,v,h2,E,hk _ h4⟩
 | .p dst f args,σ,h=>by
  obtain⟨z,h1,a1,a2,a3,a4,a5,a,g,b1,b2,b3,c,d,b⟩:=h;exact⟨z,h1,a1,a2,a3,a4,a5,a,g,b1,b2,b3,c,d,hk _ b⟩
 | .x dst op late,σ,h=>by
  simp only[AO] at h⊢
  split at h
  ·exact⟨h.1,h.2.1,hk _ h.2.2⟩
  ·exact h
 | .q dst f args late,σ,h=>by
  obtain⟨a1,a2,a3,a4,b1,b2,b3,c,d,b,i⟩:=h;exact⟨a1,a2,a3,a4,b1,b2,b3,c,d,b,hk _ i⟩
 | .g t want dst o,σ,h=>by
  simp only[AO] at h⊢
  split at h
  ·exact⟨fun e=>xn hk (h.1 e),fun e=>hk _ (h.2 e)⟩
  ·exact hk _ h
  ·exact h
theorem Av (hk:∀ σ,K σ->q σ):∀ {sos:List SO} {σ:St},aI P K sos σ->aI P q sos σ
 |[],_,h=>hk _ h
 |_::_,_,h=>xn (fun _=>Av hk) h
theorem sN:∀ {l l':List SO} {σ:St},aI P K (l++l') σ↔aI P (aI P K l') l σ
 |[],_,_=>Iff.rfl
 |_::_,_,_=>⟨fun h=>xn (fun _=>sN.1) h,fun h=>xn (fun _=>sN.2) h⟩
def tg:List Nat->Nat->Bool
 |[],_=>false
 |a::l,j=>if j=a then true else tg l j
def Ih (J:List Nat) (g s:Nat->SV):Nat->SV:=fun j=>if tg J j=true then g j else s j
theorem NM (J:List Nat) (g s:Nat->SV) (j:Nat):Ih J g s j=if tg J j=true then g j else s j:=rfl
def th (J:List Nat):List SO->Bool
 |[]=>true
 |o::l=>(match lW o with|some d=>tg J d|none=>false)&&th J l
theorem yD {J:List Nat}:∀ {l:List SO} {s s':Nat->SV},th J l=true->(∀ j,tg J j=false->s' j=s j)->aI P K l ⟨s',h⟩->aI P (fun σ=>K σ/\σ.h=h/\∀ j,tg J j=false->σ.s j=s j) l ⟨s',h⟩
 |[],s,s',_,ha,hk=>⟨hk,rfl,ha⟩
 |o::l,s,s',hd,ha,hk=>by
  simp only[th,Vj] at hd
  obtain⟨h1,h2⟩:=hd
  split at h1
  ·rename_i d hd
   obtain⟨v,hy,D⟩:=HR hd hk
   refine xn (fun σ he=> ?_) (Fk hd hy)
   subst he
   refine yD h2 (fun j hj=> ?_) D
   have U:j≠d:=fun e=>by subst e;rw[hj] at h1;cases h1
   simp only[ap,U,VQ];exact ha j hj
  ·cases h1
def gw (t:Nat) (want:Bool):SO->SO
 | .g t' w d o=> .g t' w d o
 |o=> .g t want (lW o) o
def R0 (t:Nat) (want:Bool) (l:List SO):List SO:=l.map (gw t want)
def PV:List Nat->List SO->Bool
 |_,[]=>true
 |seen,.g t' _ d o::l=>tg seen t'&&(match lW o with|some e=>decide (d=some e)&&PV (e::seen) l|none=>false)
 |seen,o::l=>(match lW o with|some e=>PV (e::seen) l|none=>false)
theorem R1 {w:Bool} {d:Option Nat} {o:SO} {e:Nat} (h:lW o=some e) (hd:d=some e):lW (.g t w d o)=some e:=by
 subst hd;simp[lW,h]
theorem DG {t:Nat} {want:Bool} {J:List Nat}:∀ {l:List SO} {s:Nat->SV},th J l=true->tg J t=false->s t= .d (.bool want)->aI P K l ⟨s,h⟩->aI P K (R0 t want l) ⟨s,h⟩
 |[],_,_,_,_,hk=>hk
 |o::l,s,hd,ht,hs,hk=>by
  simp only[th,Vj] at hd
  obtain⟨h1,h2⟩:=hd
  split at h1
  ·rename_i d f
   obtain⟨v,hy,D⟩:=HR f hk
   have U:t≠d:=fun e=>by subst e;rw[ht] at h1;cases h1
   have i:aI P K (R0 t want l) ⟨ap s d v,h⟩:=DG h2 ht (by simp only[ap,U,VQ];exact hs) D
   have a:AO P o ⟨s,h⟩ (aI P K (R0 t want l)):=xn (fun σ he=>by subst he;exact i) (Fk f hy)
   have:AO P (gw t want o) ⟨s,h⟩ (aI P K (R0 t want l)):=by
    unfold gw
    split
    ·exact a
    ·show(match s t with| .d (.bool b)=>_| .d (.tup [])=>_|_=>_)
     rw[hs]
     exact⟨fun _=>a,fun e=>by cases want<;>simp at e⟩
   exact this
  ·cases h1
theorem DH {t:Nat} {want b:Bool} {J:List Nat} (hb:b= !want):∀ {l:List SO} {seen:List Nat} {s:Nat->SV},th J l=true->PV seen l=true->tg J t=false->s t= .d (.bool b)->(∀ j,tg seen j=true->s j= .d (.tup []))->
  (∀ s',(∀ j,tg J j=false->s' j=s j)->K ⟨s',h⟩)->aI P K (R0 t want l) ⟨s,h⟩
 |[],_,s,_,_,_,_,_,hk=>hk s fun _ _=>rfl
 |o::l,seen,s,hd,L,ht,hs,n,hk=>by
  simp only[th,Vj] at hd
  obtain⟨h1,h2⟩:=hd
  split at h1
  ·rename_i d f
   have U:t≠d:=fun e=>by subst e;rw[ht] at h1;cases h1
   have step:∀ a,PV (d::a) l=true->(∀ j,tg a j=true->s j= .d (.tup []))->aI P K (R0 t want l) ⟨ap s d (.d (.tup [])),h⟩:=by
    intro a i c
    refine DH hb h2 i ht (by simp only[ap,U,VQ];exact hs) (fun j hj=> ?_) (fun s' ha=>hk s' fun j hj=> ?_)
    ·simp only[tg] at hj
     by_cases m:j=d
     ·subst m;simp[ap]
     ·simp only[m,VQ] at hj;simp only[ap,m,VQ];exact c j hj
    ·rw[ha j hj]
     have:j≠d:=fun e=>by subst e;rw[hj] at h1;cases h1
     simp only[ap,this,VQ]
   cases o with
   |g t' w' d' o'=>
    simp only[PV,Vj] at L
    obtain⟨g1,g2⟩:=L
    split at g2
    ·rename_i e he
     simp only[Vj,Vv] at g2
     have k:d=e:=by have:=R1 (t:=t') (w:=w') he g2.1;rw[this] at f;exact(W5 f).symm
     subst k
     show AO P (.g t' w' d' o') ⟨s,h⟩ _
     simp only[AO,n t' g1,g2.1,putS]
     exact step seen g2.2 n
    ·cases g2
   |_=>
    simp only[PV,f] at L
    show AO P (.g t want _ _) ⟨s,h⟩ _
    simp only[AO,hs,f,putS]
    refine⟨fun e=> ?_,fun _=>step seen L n⟩
    rw[hb] at e;cases want<;>simp at e
  ·cases h1
def Ii (u:Nat) (v:Bool):St->Prop:=fun σ=>σ.s u= .d (.bool v)
def aS (a:List Nat) (t:Nat) (want:Bool) (l z:List SO):List SO:=R0 t want l++z
theorem ll (Z:(lD b m1).bind k=some r) (L:s t= .d (.bool b)) (hd:(th J l&&PV [] l&& !tg J t)=true) (h1:∀ v,m1=some v->aI P (Ii u v) l ⟨s,h⟩) (hk:∀ v g,k v=some r->aI P K sos ⟨ap (Ih J g s) d (.d (.bool v)),h⟩):
  aI P K (aS J t true l (.r d (.pick (.t t) (.t u) (.c (.d (.bool false))))::sos)) ⟨s,h⟩:=by
 unfold aS
 simp only[Vj,Wb] at hd
 obtain⟨⟨a,p⟩,c⟩:=hd
 rw[sN]
 have fin:∀ (s':Nat->SV) (v:Bool),(∀ j,tg J j=false->s' j=s j)->k v=some r->aI P K sos ⟨ap s' d (.d (.bool v)),h⟩:=by
  intro s' v ha hv
  have:=hk v s' hv
  have e:Ih J s' s=s':=by
   funext j;simp only[Ih];split
   ·rfl
   ·rename_i hj;exact(ha j (by simpa using hj)).symm
  rw[e] at this;exact this
 cases b with
 |true=>
  simp only[lD,Vo] at Z
  cases hv:m1 with
  |none=>rw[hv] at Z;cases Z
  |some v=>
   rw[hv] at Z
   have h2:=DG (t:=t) (want:=true) a c L (yD a (fun _ _=>rfl) (h1 v hv))
   refine Av (fun σ f=> ?_) h2
   obtain⟨E,h4,h5⟩:=f
   unfold Ii at E
   have h6:σ.s t= .d (.bool true):=by rw[h5 t c];exact L
   show AO P (.r d _) σ _
   obtain⟨i,hh⟩:=σ
   simp only at E h4 h5 h6;subst h4
   simp only[AO,rd,ev,h6,E]
   exact⟨trivial,fin _ v h5 Z⟩
 |false=>
  simp only[lD,Vn,Vh] at Z
  refine DH (want:=true) rfl a p c L (fun j hj=>by simp[tg] at hj) (fun s' ha=> ?_)
  show AO P (.r d _) _ _
  have h6:s' t= .d (.bool false):=by rw[ha t c];exact L
  simp only[AO,rd,ev,h6]
  exact⟨trivial,fin _ false ha Z⟩
theorem sB (Z:(IU b m1).bind k=some r) (L:s t= .d (.bool b)) (hd:(th J l&&PV [] l&& !tg J t)=true) (h1:∀ v,m1=some v->aI P (Ii u v) l ⟨s,h⟩) (hk:∀ v g,k v=some r->aI P K sos ⟨ap (Ih J g s) d (.d (.bool v)),h⟩):
  aI P K (aS J t false l (.r d (.pick (.t t) (.c (.d (.bool true))) (.t u))::sos)) ⟨s,h⟩:=by
 unfold aS
 simp only[Vj,Wb] at hd
 obtain⟨⟨a,p⟩,c⟩:=hd
 rw[sN]
 have fin:∀ (s':Nat->SV) (v:Bool),(∀ j,tg J j=false->s' j=s j)->k v=some r->aI P K sos ⟨ap s' d (.d (.bool v)),h⟩:=by
  intro s' v ha hv
  have:=hk v s' hv
  have e:Ih J s' s=s':=by
   funext j;simp only[Ih];split
   ·rfl
   ·rename_i hj;exact(ha j (by simpa using hj)).symm
  rw[e] at this;exact this
 cases b with
 |false=>
  simp only[IU,Vn] at Z
  cases hv:m1 with
  |none=>rw[hv] at Z;cases Z
  |some v=>
   rw[hv] at Z
   have h2:=DG (t:=t) (want:=false) a c L (yD a (fun _ _=>rfl) (h1 v hv))
   refine Av (fun σ f=> ?_) h2
   obtain⟨E,h4,h5⟩:=f
   unfold Ii at E
   have h6:σ.s t= .d (.bool false):=by rw[h5 t c];exact L
   show AO P (.r d _) σ _
   obtain⟨i,hh⟩:=σ
   simp only at E h4 h5 h6;subst h4
   simp only[AO,rd,ev,h6,E]
   exact⟨trivial,fin _ v h5 Z⟩
 |true=>
  simp only[IU,Vo,Vh] at Z
  refine DH (want:=false) rfl a p c L (fun j hj=>by simp[tg] at hj) (fun s' ha=> ?_)
  show AO P (.r d _) _ _
  have h6:s' t= .d (.bool true):=by rw[ha t c];exact L
  simp only[AO,rd,ev,h6]
  exact⟨trivial,fin _ true ha Z⟩
end
def Q1 (P:Program) (K:St->Prop) (x1 x2:SO) (post:List SO) (σ:St):Prop:=aI P K (x1::x2::post) σ/\aI P K (x2::x1::post) σ
theorem R3 {Q:AX->St->Prop} {π:List Nat} {pre:List SO} {x1 x2:SO} {σ:St} (G:aI P (Q1 P (Q .normal) x1 x2 post) pre σ):AW P (.regV π pre x1 x2 post) Q σ:=fun p c g R Z Y κ φ a w D=>by
 obtain⟨id,b,rfl,hv⟩:∃ id b,g= .region id b true/\Js P c.N π b pre.length (pre++x1::x2::post) (pre++x2::x1::post)=true:=by
  cases g with
  |region id b d=>
   cases d with
   |true=>exact⟨id,b,rfl,Z⟩
   |false=>simp[dS] at Z
  |_=>simp[dS] at Z
 unfold Js at hv
 simp only[Vj] at hv
 obtain⟨⟨⟨⟨⟨h1,h2⟩,E⟩,h4⟩,h5⟩,h6⟩:=hv
 have r5:∀ so∈pre,QZ so=true:=fun so B=>by
  obtain⟨j,hj,r4⟩:=XG B
  obtain⟨s9,_⟩:=hL h2
  have hl:(pre++x1::x2::post)[j]?=some so:=by rw[V7 hj];simp[Vu hj,r4]
  have h9:j<(f0 b (pre.length+1) pre.length).size:=by have:=(Vr.1 hl).1;simp at s9 this;simp;omega
  have:=tW E j (f0 b (pre.length+1) pre.length)[j] so (by simp[h9]) hl
  simp only[wb,Vj,VD] at this
  exact this.1.1.1.1
 obtain⟨S,s0,u,s2⟩:=Cj pre σ r5 G
 exact GQ p D rfl (fun O W h7 a' w' h8 hk=>Y.1 _ _ _ _ _ h8 hk) h1 h2 E h4 h5 h6 ⟨S,s0,u,s2.1,s2.2⟩
mutual
theorem Aw (i j:Nat):∀ v:SV,d6 i .any (d6 j .any v)=d6 j .any (d6 i .any v)
 | .d v=>rfl
 | .nils=>rfl
 | .lit sz n cs=>by simp only[d6,ry i j cs]
 | .agg cs=>by simp only[d6,ry i j cs]
 | .tup cs=>by simp only[d6,ry i j cs]
 | .ref k off=>by
  show d6 i .any (if k=j then .d .any else .ref k off)=d6 j .any (if k=i then .d .any else .ref k off)
  by_cases h1:k=i
  ·by_cases h2:k=j
   ·rw[Wy h1,Wy h2];rfl
   ·rw[Wy h1,WU h2];show(if k=i then _ else _)=_;rw[Wy h1];rfl
  ·by_cases h2:k=j
   ·rw[WU h1,Wy h2];show _=(if k=j then _ else _);rw[Wy h2];rfl
   ·rw[WU h1,WU h2];show(if k=i then _ else _)=(if k=j then _ else _);rw[WU h1,WU h2]
 | .vec k=>by
  show d6 i .any (if k=j then .d .any else .vec k)=d6 j .any (if k=i then .d .any else .vec k)
  by_cases h1:k=i
  ·by_cases h2:k=j
   ·rw[Wy h1,Wy h2];rfl
   ·rw[Wy h1,WU h2];show(if k=i then _ else _)=_;rw[Wy h1];rfl
  ·by_cases h2:k=j
   ·rw[WU h1,Wy h2];show _=(if k=j then _ else _);rw[Wy h2];rfl
   ·rw[WU h1,WU h2];show(if k=i then _ else _)=(if k=j then _ else _);rw[WU h1,WU h2]
 | .vref k a b off=>by
  show d6 i .any (if k=j then .d .any else .vref k a b off)=d6 j .any (if k=i then .d .any else .vref k a b off)
  by_cases h1:k=i
  ·by_cases h2:k=j
   ·rw[Wy h1,Wy h2];rfl
   ·rw[Wy h1,WU h2];show(if k=i then _ else _)=_;rw[Wy h1];rfl
  ·by_cases h2:k=j
   ·rw[WU h1,Wy h2];show _=(if k=j then _ else _);rw[Wy h2];rfl
   ·rw[WU h1,WU h2];show(if k=i then _ else _)=(if k=j then _ else _);rw[WU h1,WU h2]
 | .mp k=>by
  show d6 i .any (if k=j then .d .any else .mp k)=d6 j .any (if k=i then .d .any else .mp k)
  by_cases h1:k=i
  ·by_cases h2:k=j
   ·rw[Wy h1,Wy h2];rfl
   ·rw[Wy h1,WU h2];show(if k=i then _ else _)=_;rw[Wy h1];rfl
  ·by_cases h2:k=j
   ·rw[WU h1,Wy h2];show _=(if k=j then _ else _);rw[Wy h2];rfl
   ·rw[WU h1,WU h2];show(if k=i then _ else _)=(if k=j then _ else _);rw[WU h1,WU h2]
 | .own m v=>rfl
theorem ry (i j:Nat):∀ l:List SV,ck i .any (ck j .any l)=ck j .any (ck i .any l)
 |[]=>rfl
 |c::cs=>by simp only[ck,Aw i j c,ry i j cs]
end
theorem FA (i j:Nat):∀ l:List (List SV),dz i .any (dz j .any l)=dz j .any (dz i .any l)
 |[]=>rfl
 |c::cs=>by simp only[dz,ry i j c,FA i j cs]
theorem FB (i j:Nat):∀ l:List (DV×SV),vT i .any (vT j .any l)=vT j .any (vT i .any l)
 |[]=>rfl
 |(k,c)::cs=>by simp only[vT,Aw i j c,FB i j cs]
theorem LP (i j:Nat):∀ c:Ch,mj i .any (mj j .any c)=mj j .any (mj i .any c)
 | .dead=>rfl
 | .box cs=>by simp only[mj,ry i j cs]
 | .vec e sz rows=>by simp only[mj,FA i j rows]
 | .map kk kv=>by simp only[mj,FB i j kv]
 | .bld _ _ _=>rfl
theorem R4 {A B:SV} (U:H≠d2) (hA:d6 H .any A=A) (hB:d6 d2 .any B=B) (s:Nat->SV):ap (bG H .any (ap (bG d2 .any s) d2 A)) H B=ap (bG d2 .any (ap (bG H .any s) H B)) d2 A:=by
 funext t
 simp only[ap,bG]
 by_cases h1:t=H
 ·subst h1;simp[U,hB]
 ·by_cases h2:t=d2
  ·subst h2;simp[h1,hA]
  ·simp only[h1,h2,VQ,Aw H d2]
theorem R5 {A B:Ch} (U:H≠d2) (hA:mj H .any A=A) (hB:mj d2 .any B=B) (h:Nat->Ch):ap (bK H .any (ap (bK d2 .any h) d2 A)) H B=ap (bK d2 .any (ap (bK H .any h) H B)) d2 A:=by
 funext t
 simp only[ap,bK]
 by_cases e1:t=H
 ·subst e1;simp[U,hB]
 ·by_cases e2:t=d2
  ·subst e2;simp[e1,hA]
  ·simp only[e1,e2,VQ,LP H d2]
theorem FC (U:H≠d2):d6 H .any (.ref d2 0)= .ref d2 0:=by simp[d6,Ne.symm U]
theorem R6 {K:St->Prop} {b v2:SV} {k1 k2:List SV} {l1 l2:List (Nat×Nat×sA)} {s:Nat->SV} {h:Nat->Ch} (o:b.cells?=some k1) (v:v2.cells?=some k2) (U:H≠d2) (a:ck H .any k1=k1) (d:ck d2 .any k1=k1) (e:ck H .any k2=k2) (c:ck d2 .any k2=k2) (r1:su ⟨ap (bG H .any s) H (.ref H 0),ap (bK H .any h) H (.box k1)⟩ l1) (r2:su ⟨ap (bG d2 .any s) d2 (.ref d2 0),ap (bK d2 .any h) d2 (.box k2)⟩ l2) (r3:su ⟨ap (bG d2 .any (ap (bG H .any s) H (.ref H 0))) d2 (.ref d2 0),ap (bK d2 .any (ap (bK H .any h) H (.box k1))) d2 (.box k2)⟩ l1) (r4:su ⟨ap (bG d2 .any (ap (bG H .any s) H (.ref H 0))) d2 (.ref d2 0),ap (bK d2 .any (ap (bK H .any h) H (.box k1))) d2 (.box k2)⟩ l2) (hk:aI P K post ⟨ap (bG d2 .any (ap (bG H .any s) H (.ref H 0))) d2 (.ref d2 0),ap (bK d2 .any (ap (bK H .any h) H (.box k1))) d2 (.box k2)⟩):Q1 P K (.x H (.boxM (.c b)) l1) (.x d2 (.boxM (.c v2)) l2) post ⟨s,h⟩:=by
 constructor
 ·simp only[aI,AO,wr,ev,o,v,a,c,St.swap]
  exact⟨trivial,r1,trivial,r4,hk⟩
 ·simp only[aI,AO,wr,ev,o,v,a,c,St.swap]
  rw[R4 U (FC U) (FC (Ne.symm U)),R5 U (by simp only[mj,e]) (by simp only[mj,d])]
  exact⟨trivial,r2,trivial,r3,hk⟩
