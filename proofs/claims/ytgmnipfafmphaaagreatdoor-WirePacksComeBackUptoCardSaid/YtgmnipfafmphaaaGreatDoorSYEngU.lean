/-
  My text.
-/
import Derived.Test.YtgmnipfafmphaaaGreatDoorSYEngM
namespace Go.Proofs.YtgmnipfafmphaaaGreatDoor
set_option linter.unusedSimpArgs false
set_option linter.unusedVariables false
open Go.RowKit
variable {A:Type} {H:Nat} {J:List Nat} {P:Program} {R S:Type} {b:Bool} {d d2:Nat} {l:List SO} {m1:Option Bool} {post:List SO} {t u:Nat} {α:Type} {k:Bool->Option R} {r:R}
def lF {S A:Type} (f:S->Option (S⊕A)):Nat->S->Option A
 |0,_=>none
 |n+1,s=>match f s with
  |some (.inl s')=>lF f n s'
  |some (.inr a)=>some a
  |none=>none
theorem vu {S A:Type} {f:S->Option (S⊕A)} {a:A}:∀ {n m:Nat} {s:S},n<=m->lF f n s=some a->lF f m s=some a
 |0,_,_,_,h=>by simp[lF] at h
 |n+1,0,_,h,_=>by omega
 |n+1,m+1,s,h,hl=>by
  simp only[lF] at hl⊢
  split at hl
  ·exact vu oM hl
  ·exact hl
  ·cases hl
open Classical in
noncomputable def bc (f:S->Option (S⊕A)) (s:S):Option A:=
 if h:∃ n,(lF f n s).isSome=true then lF f (Classical.choose h) s else none
theorem vw {f:S->Option (S⊕A)} {s:S} {a:A}:bc f s=some a↔∃ n,lF f n s=some a:=by
 unfold bc
 constructor
 ·intro h
  split at h
  ·exact⟨_,h⟩
  ·cases h
 ·rintro⟨n,hn⟩
  have b:∃ n,(lF f n s).isSome=true:=⟨n,by rw[hn];rfl⟩
  rw[dif_pos b]
  have hc:=Classical.choose_spec b
  obtain⟨a',e⟩:=T0.1 hc
  rw[e]
  have h1:=vu (Nat.le_max_left n (Classical.choose b)) hn
  have h2:=vu (Nat.le_max_right n (Classical.choose b)) e
  rw[h1] at h2;exact h2.symm
theorem b3 (f:S->Option (S⊕A)) (s:S):bc f s=match f s with
  |some (.inl s')=>bc f s'
  |some (.inr a)=>some a
  |none=>none:=by
 apply Option.ext
 intro a
 rw[vw]
 cases C:f s with
 |none=>
  constructor
  ·rintro⟨n,hn⟩
   cases n<;>simp[lF,C] at hn
  ·intro h;cases h
 |some o=>
  cases o with
  |inl s'=>
   simp only
   rw[vw]
   constructor
   ·rintro⟨n,hn⟩
    cases n with
    |zero=>simp[lF] at hn
    |succ n=>exact⟨n,by simpa only[lF,C] using hn⟩
   ·rintro⟨n,hn⟩
    exact⟨n+1,by simpa only[lF,C] using hn⟩
  |inr a'=>
   simp only
   constructor
   ·rintro⟨n,hn⟩
    cases n with
    |zero=>simp[lF] at hn
    |succ n=>simpa only[lF,C] using hn
   ·intro hn
    exact⟨1,by simpa only[lF,C] using hn⟩
def b4 (l:List α) (i:Int):Option α:=if 0<=i then l[i.toNat]? else none
def cz (l:List α) (lo hi:Int):Option (List α):=if 0<=lo/\lo<=hi/\hi<=l.length then some ((l.take hi.toNat).drop lo.toNat) else none
def m8 (b:Bool) (m:Option Bool):Option Bool:=bif b then m else some false
def LG (b:Bool) (m:Option Bool):Option Bool:=bif b then some true else m
section
variable {P:Program} {s:Nat->SV} {h:Nat->Ch} {K x:St->Prop} {sos:List SO}
theorem t1 (hk:∀ σ,K σ->x σ):∀ {so:SO} {σ:St},AO P so σ K->AO P so σ x
 | .r dst op,σ,h=>by
  simp only[AO] at h⊢
  split at h
  ·exact⟨h.1,hk _ h.2⟩
  ·exact h
 | .c dst f args,σ,h=>by
  simp only[AO] at h⊢
  split at h
  ·obtain⟨res,h1,h2,E⟩:=h;exact⟨res,h1,h2,hk _ E⟩
  ·exact h
 | .o dst op,σ,h=>by
  obtain⟨j,h1,p,v,h2,E,h4⟩:=h;exact⟨j,h1,p,v,h2,E,hk _ h4⟩
 | .w dst op,σ,h=>by
  obtain⟨j,h1,p,v,h2,E,h4⟩:=h;exact⟨j,h1,p,v,h2,E,hk _ h4⟩
 | .p dst f args,σ,h=>by
  obtain⟨j,h1,M,a2,a3,a4,a5,b,d,b1,b2,u,k,c,a⟩:=h;exact⟨j,h1,M,a2,a3,a4,a5,b,d,b1,b2,u,k,c,hk _ a⟩
 | .x dst op late,σ,h=>by
  simp only[AO] at h⊢
  split at h
  ·exact⟨h.1,h.2.1,hk _ h.2.2⟩
  ·exact h
 | .q dst f args late,σ,h=>by
  obtain⟨M,a2,a3,a4,b1,b2,u,k,c,a,g⟩:=h;exact⟨M,a2,a3,a4,b1,b2,u,k,c,a,hk _ g⟩
 | .g t want dst o,σ,h=>by
  simp only[AO] at h⊢
  split at h
  ·exact⟨fun e=>t1 hk (h.1 e),fun e=>hk _ (h.2 e)⟩
  ·exact hk _ h
  ·exact h
theorem xG (hk:∀ σ,K σ->x σ):∀ {sos:List SO} {σ:St},aD P K sos σ->aD P x sos σ
 |[],_,h=>hk _ h
 |_::_,_,h=>t1 (fun _=>xG hk) h
theorem oY:∀ {l l':List SO} {σ:St},aD P K (l++l') σ↔aD P (aD P K l') l σ
 |[],_,_=>Iff.rfl
 |_::_,_,_=>⟨fun h=>t1 (fun _=>oY.1) h,fun h=>t1 (fun _=>oY.2) h⟩
def pX:List Nat->Nat->Bool
 |[],_=>false
 |a::l,j=>if j=a then true else pX l j
def Hh (J:List Nat) (g s:Nat->SV):Nat->SV:=fun j=>if pX J j=true then g j else s j
theorem LH (J:List Nat) (g s:Nat->SV) (j:Nat):Hh J g s j=if pX J j=true then g j else s j:=rfl
def ri (J:List Nat):List SO->Bool
 |[]=>true
 |o::l=>(match iU o with|some d=>pX J d|none=>false)&&ri J l
theorem vx {J:List Nat}:∀ {l:List SO} {s s':Nat->SV},ri J l=true->(∀ j,pX J j=false->s' j=s j)->aD P K l ⟨s',h⟩->aD P (fun σ=>K σ/\σ.h=h/\∀ j,pX J j=false->σ.s j=s j) l ⟨s',h⟩
 |[],s,s',_,ha,hk=>⟨hk,rfl,ha⟩
 |o::l,s,s',hd,ha,hk=>by
  simp only[ri,SR] at hd
  obtain⟨h1,h2⟩:=hd
  split at h1
  ·rename_i d hd
   obtain⟨v,hy,D⟩:=Ft hd hk
   refine t1 (fun σ he=> ?_) (CS hd hy)
   subst he
   refine vx h2 (fun j hj=> ?_) D
   have U:j≠d:=fun e=>by subst e;rw[hj] at h1;cases h1
   simp only[am,U,Tq];exact ha j hj
  ·cases h1
def gw (t:Nat) (want:Bool):SO->SO
 | .g t' w d o=> .g t' w d o
 |o=> .g t want (iU o) o
def P6 (t:Nat) (want:Bool) (l:List SO):List SO:=l.map (gw t want)
def Pg:List Nat->List SO->Bool
 |_,[]=>true
 |seen,.g t' _ d o::l=>pX seen t'&&(match iU o with|some e=>decide (d=some e)&&Pg (e::seen) l|none=>false)
 |seen,o::l=>(match iU o with|some e=>Pg (e::seen) l|none=>false)
theorem P7 {w:Bool} {d:Option Nat} {o:SO} {e:Nat} (h:iU o=some e) (hd:d=some e):iU (.g t w d o)=some e:=by
 subst hd;simp[iU,h]
theorem AU {t:Nat} {want:Bool} {J:List Nat}:∀ {l:List SO} {s:Nat->SV},ri J l=true->pX J t=false->s t= .d (.bool want)->aD P K l ⟨s,h⟩->aD P K (P6 t want l) ⟨s,h⟩
 |[],_,_,_,_,hk=>hk
 |o::l,s,hd,ht,hs,hk=>by
  simp only[ri,SR] at hd
  obtain⟨h1,h2⟩:=hd
  split at h1
  ·rename_i d f
   obtain⟨v,hy,D⟩:=Ft f hk
   have U:t≠d:=fun e=>by subst e;rw[ht] at h1;cases h1
   have i:aD P K (P6 t want l) ⟨am s d v,h⟩:=AU h2 ht (by simp only[am,U,Tq];exact hs) D
   have a:AO P o ⟨s,h⟩ (aD P K (P6 t want l)):=t1 (fun σ he=>by subst he;exact i) (CS f hy)
   have:AO P (gw t want o) ⟨s,h⟩ (aD P K (P6 t want l)):=by
    unfold gw
    split
    ·exact a
    ·show(match s t with| .d (.bool b)=>_| .d (.tup [])=>_|_=>_)
     rw[hs]
     exact⟨fun _=>a,fun e=>by cases want<;>simp at e⟩
   exact this
  ·cases h1
theorem AV {t:Nat} {want b:Bool} {J:List Nat} (hb:b= !want):∀ {l:List SO} {seen:List Nat} {s:Nat->SV},ri J l=true->Pg seen l=true->pX J t=false->s t= .d (.bool b)->(∀ j,pX seen j=true->s j= .d (.tup []))->
  (∀ s',(∀ j,pX J j=false->s' j=s j)->K ⟨s',h⟩)->aD P K (P6 t want l) ⟨s,h⟩
 |[],_,s,_,_,_,_,_,hk=>hk s fun _ _=>rfl
 |o::l,seen,s,hd,hg,ht,hs,n,hk=>by
  simp only[ri,SR] at hd
  obtain⟨h1,h2⟩:=hd
  split at h1
  ·rename_i d f
   have U:t≠d:=fun e=>by subst e;rw[ht] at h1;cases h1
   have step:∀ a,Pg (d::a) l=true->(∀ j,pX a j=true->s j= .d (.tup []))->aD P K (P6 t want l) ⟨am s d (.d (.tup [])),h⟩:=by
    intro a q c
    refine AV hb h2 q ht (by simp only[am,U,Tq];exact hs) (fun j hj=> ?_) (fun s' ha=>hk s' fun j hj=> ?_)
    ·simp only[pX] at hj
     by_cases m:j=d
     ·subst m;simp[am]
     ·simp only[m,Tq] at hj;simp only[am,m,Tq];exact c j hj
    ·rw[ha j hj]
     have:j≠d:=fun e=>by subst e;rw[hj] at h1;cases h1
     simp only[am,this,Tq]
   cases o with
   |g t' w' d' o'=>
    simp only[Pg,SR] at hg
    obtain⟨g1,g2⟩:=hg
    split at g2
    ·rename_i e he
     simp only[SR,S5] at g2
     have i:d=e:=by have:=P7 (t:=t') (w:=w') he g2.1;rw[this] at f;exact(Uq f).symm
     subst i
     show AO P (.g t' w' d' o') ⟨s,h⟩ _
     simp only[AO,n t' g1,g2.1,putS]
     exact step seen g2.2 n
    ·cases g2
   |_=>
    simp only[Pg,f] at hg
    show AO P (.g t want _ _) ⟨s,h⟩ _
    simp only[AO,hs,f,putS]
    refine⟨fun e=> ?_,fun _=>step seen hg n⟩
    rw[hb] at e;cases want<;>simp at e
  ·cases h1
def FR (u:Nat) (v:Bool):St->Prop:=fun σ=>σ.s u= .d (.bool v)
def bK (a:List Nat) (t:Nat) (want:Bool) (l z:List SO):List SO:=P6 t want l++z
theorem nx (Z:(m8 b m1).bind k=some r) (hg:s t= .d (.bool b)) (hd:(ri J l&&Pg [] l&& !pX J t)=true) (h1:∀ v,m1=some v->aD P (FR u v) l ⟨s,h⟩) (hk:∀ v g,k v=some r->aD P K sos ⟨am (Hh J g s) d (.d (.bool v)),h⟩):
  aD P K (bK J t true l (.r d (.pick (.t t) (.t u) (.c (.d (.bool false))))::sos)) ⟨s,h⟩:=by
 unfold bK
 simp only[SR,TI] at hd
 obtain⟨⟨a,q⟩,c⟩:=hd
 rw[oY]
 have fin:∀ (s':Nat->SV) (v:Bool),(∀ j,pX J j=false->s' j=s j)->k v=some r->aD P K sos ⟨am s' d (.d (.bool v)),h⟩:=by
  intro s' v ha hv
  have:=hk v s' hv
  have e:Hh J s' s=s':=by
   funext j;simp only[Hh];split
   ·rfl
   ·rename_i hj;exact(ha j (by simpa using hj)).symm
  rw[e] at this;exact this
 cases b with
 |true=>
  simp only[m8,S4] at Z
  cases hv:m1 with
  |none=>rw[hv] at Z;cases Z
  |some v=>
   rw[hv] at Z
   have h2:=AU (t:=t) (want:=true) a c hg (vx a (fun _ _=>rfl) (h1 v hv))
   refine xG (fun σ f=> ?_) h2
   obtain⟨E,h4,h5⟩:=f
   unfold FR at E
   have h6:σ.s t= .d (.bool true):=by rw[h5 t c];exact hg
   show AO P (.r d _) σ _
   obtain⟨i,hh⟩:=σ
   simp only at E h4 h5 h6;subst h4
   simp only[AO,rd,ev,h6,E]
   exact⟨trivial,fin _ v h5 Z⟩
 |false=>
  simp only[m8,S7,SQ] at Z
  refine AV (want:=true) rfl a q c hg (fun j hj=>by simp[pX] at hj) (fun s' ha=> ?_)
  show AO P (.r d _) _ _
  have h6:s' t= .d (.bool false):=by rw[ha t c];exact hg
  simp only[AO,rd,ev,h6]
  exact⟨trivial,fin _ false ha Z⟩
theorem rZ (Z:(LG b m1).bind k=some r) (hg:s t= .d (.bool b)) (hd:(ri J l&&Pg [] l&& !pX J t)=true) (h1:∀ v,m1=some v->aD P (FR u v) l ⟨s,h⟩) (hk:∀ v g,k v=some r->aD P K sos ⟨am (Hh J g s) d (.d (.bool v)),h⟩):
  aD P K (bK J t false l (.r d (.pick (.t t) (.c (.d (.bool true))) (.t u))::sos)) ⟨s,h⟩:=by
 unfold bK
 simp only[SR,TI] at hd
 obtain⟨⟨a,q⟩,c⟩:=hd
 rw[oY]
 have fin:∀ (s':Nat->SV) (v:Bool),(∀ j,pX J j=false->s' j=s j)->k v=some r->aD P K sos ⟨am s' d (.d (.bool v)),h⟩:=by
  intro s' v ha hv
  have:=hk v s' hv
  have e:Hh J s' s=s':=by
   funext j;simp only[Hh];split
   ·rfl
   ·rename_i hj;exact(ha j (by simpa using hj)).symm
  rw[e] at this;exact this
 cases b with
 |false=>
  simp only[LG,S7] at Z
  cases hv:m1 with
  |none=>rw[hv] at Z;cases Z
  |some v=>
   rw[hv] at Z
   have h2:=AU (t:=t) (want:=false) a c hg (vx a (fun _ _=>rfl) (h1 v hv))
   refine xG (fun σ f=> ?_) h2
   obtain⟨E,h4,h5⟩:=f
   unfold FR at E
   have h6:σ.s t= .d (.bool false):=by rw[h5 t c];exact hg
   show AO P (.r d _) σ _
   obtain⟨i,hh⟩:=σ
   simp only at E h4 h5 h6;subst h4
   simp only[AO,rd,ev,h6,E]
   exact⟨trivial,fin _ v h5 Z⟩
 |true=>
  simp only[LG,S4,SQ] at Z
  refine AV (want:=false) rfl a q c hg (fun j hj=>by simp[pX] at hj) (fun s' ha=> ?_)
  show AO P (.r d _) _ _
  have h6:s' t= .d (.bool true):=by rw[ha t c];exact hg
  simp only[AO,rd,ev,h6]
  exact⟨trivial,fin _ true ha Z⟩
end
def Ph (P:Program) (K:St->Prop) (x1 x2:SO) (post:List SO) (σ:St):Prop:=aD P K (x1::x2::post) σ/\aD P K (x2::x1::post) σ
theorem P8 {Q:AX->St->Prop} {π:List Nat} {pre:List SO} {x1 x2:SO} {σ:St} (G:aD P (Ph P (Q .normal) x1 x2 post) pre σ):AW P (.regV π pre x1 x2 post) Q σ:=fun l c g R Z Y κ φ a w D=>by
 obtain⟨id,b,rfl,hv⟩:∃ id b,g= .region id b true/\G7 P c.N π b pre.length (pre++x1::x2::post) (pre++x2::x1::post)=true:=by
  cases g with
  |region id b d=>
   cases d with
   |true=>exact⟨id,b,rfl,Z⟩
   |false=>simp[dW] at Z
  |_=>simp[dW] at Z
 unfold G7 at hv
 simp only[SR] at hv
 obtain⟨⟨⟨⟨⟨h1,h2⟩,E⟩,h4⟩,h5⟩,h6⟩:=hv
 have r5:∀ so∈pre,Pe so=true:=fun so B=>by
  obtain⟨j,hj,r4⟩:=Vb B
  obtain⟨s3,_⟩:=fU h2
  have hl:(pre++x1::x2::post)[j]?=some so:=by rw[TP hj];simp[S0 hj,r4]
  have X:j<(eH b (pre.length+1) pre.length).size:=by have:=(SY.1 hl).1;simp at s3 this;simp;omega
  have:=pV E j (eH b (pre.length+1) pre.length)[j] so (by simp[X]) hl
  simp only[sN,SR,Tx] at this
  exact this.1.1.1.1
 obtain⟨S,s0,p,s2⟩:=zx pre σ r5 G
 exact El l D rfl (fun O N h7 a' w' h8 hk=>Y.1 _ _ _ _ _ h8 hk) h1 h2 E h4 h5 h6 ⟨S,s0,p,s2.1,s2.2⟩
mutual
theorem xH (i j:Nat):∀ v:SV,c8 i .any (c8 j .any v)=c8 j .any (c8 i .any v)
 | .d v=>rfl
 | .nils=>rfl
 | .lit sz n cs=>by simp only[c8,nT i j cs]
 | .agg cs=>by simp only[c8,nT i j cs]
 | .tup cs=>by simp only[c8,nT i j cs]
 | .ref k off=>by
  show c8 i .any (if k=j then .d .any else .ref k off)=c8 j .any (if k=i then .d .any else .ref k off)
  by_cases h1:k=i
  ·by_cases h2:k=j
   ·rw[U4 h1,U4 h2];rfl
   ·rw[U4 h1,if_neg h2];show(if k=i then _ else _)=_;rw[U4 h1];rfl
  ·by_cases h2:k=j
   ·rw[if_neg h1,U4 h2];show _=(if k=j then _ else _);rw[U4 h2];rfl
   ·rw[if_neg h1,if_neg h2];show(if k=i then _ else _)=(if k=j then _ else _);rw[if_neg h1,if_neg h2]
 | .vec k=>by
  show c8 i .any (if k=j then .d .any else .vec k)=c8 j .any (if k=i then .d .any else .vec k)
  by_cases h1:k=i
  ·by_cases h2:k=j
   ·rw[U4 h1,U4 h2];rfl
   ·rw[U4 h1,if_neg h2];show(if k=i then _ else _)=_;rw[U4 h1];rfl
  ·by_cases h2:k=j
   ·rw[if_neg h1,U4 h2];show _=(if k=j then _ else _);rw[U4 h2];rfl
   ·rw[if_neg h1,if_neg h2];show(if k=i then _ else _)=(if k=j then _ else _);rw[if_neg h1,if_neg h2]
 | .vref k a b off=>by
  show c8 i .any (if k=j then .d .any else .vref k a b off)=c8 j .any (if k=i then .d .any else .vref k a b off)
  by_cases h1:k=i
  ·by_cases h2:k=j
   ·rw[U4 h1,U4 h2];rfl
   ·rw[U4 h1,if_neg h2];show(if k=i then _ else _)=_;rw[U4 h1];rfl
  ·by_cases h2:k=j
   ·rw[if_neg h1,U4 h2];show _=(if k=j then _ else _);rw[U4 h2];rfl
   ·rw[if_neg h1,if_neg h2];show(if k=i then _ else _)=(if k=j then _ else _);rw[if_neg h1,if_neg h2]
 | .mp k=>by
  show c8 i .any (if k=j then .d .any else .mp k)=c8 j .any (if k=i then .d .any else .mp k)
  by_cases h1:k=i
  ·by_cases h2:k=j
   ·rw[U4 h1,U4 h2];rfl
   ·rw[U4 h1,if_neg h2];show(if k=i then _ else _)=_;rw[U4 h1];rfl
  ·by_cases h2:k=j
   ·rw[if_neg h1,U4 h2];show _=(if k=j then _ else _);rw[U4 h2];rfl
   ·rw[if_neg h1,if_neg h2];show(if k=i then _ else _)=(if k=j then _ else _);rw[if_neg h1,if_neg h2]
 | .own m v=>rfl
theorem nT (i j:Nat):∀ l:List SV,cm i .any (cm j .any l)=cm j .any (cm i .any l)
 |[]=>rfl
 |c::cs=>by simp only[cm,xH i j c,nT i j cs]
end
theorem C7 (i j:Nat):∀ l:List (List SV),c0 i .any (c0 j .any l)=c0 j .any (c0 i .any l)
 |[]=>rfl
 |c::cs=>by simp only[c0,nT i j c,C7 i j cs]
theorem C8 (i j:Nat):∀ l:List (DV×SV),sD i .any (sD j .any l)=sD j .any (sD i .any l)
 |[]=>rfl
 |(k,c)::cs=>by simp only[sD,xH i j c,C8 i j cs]
theorem JJ (i j:Nat):∀ c:Ch,jY i .any (jY j .any c)=jY j .any (jY i .any c)
 | .dead=>rfl
 | .box cs=>by simp only[jY,nT i j cs]
 | .vec e sz rows=>by simp only[jY,C7 i j rows]
 | .map kk kv=>by simp only[jY,C8 i j kv]
 | .bld _ _ _=>rfl
theorem P9 {A B:SV} (U:H≠d2) (hA:c8 H .any A=A) (hB:c8 d2 .any B=B) (s:Nat->SV):am (bl H .any (am (bl d2 .any s) d2 A)) H B=am (bl d2 .any (am (bl H .any s) H B)) d2 A:=by
 funext t
 simp only[am,bl]
 by_cases h1:t=H
 ·subst h1;simp[U,hB]
 ·by_cases h2:t=d2
  ·subst h2;simp[h1,hA]
  ·simp only[h1,h2,Tq,xH H d2]
theorem P_ {A B:Ch} (U:H≠d2) (hA:jY H .any A=A) (hB:jY d2 .any B=B) (h:Nat->Ch):am (bG H .any (am (bG d2 .any h) d2 A)) H B=am (bG d2 .any (am (bG H .any h) H B)) d2 A:=by
 funext t
 simp only[am,bG]
 by_cases e1:t=H
 ·subst e1;simp[U,hB]
 ·by_cases e2:t=d2
  ·subst e2;simp[e1,hA]
  ·simp only[e1,e2,Tq,JJ H d2]
theorem C9 (U:H≠d2):c8 H .any (.ref d2 0)= .ref d2 0:=by simp[c8,Ne.symm U]
theorem Qa {K:St->Prop} {b v2:SV} {k1 k2:List SV} {M l2:List (Nat×Nat×oX)} {s:Nat->SV} {h:Nat->Ch} (t:b.cells?=some k1) (v:v2.cells?=some k2) (U:H≠d2) (a:cm H .any k1=k1) (d:cm d2 .any k1=k1) (e:cm H .any k2=k2) (c:cm d2 .any k2=k2) (r1:oQ ⟨am (bl H .any s) H (.ref H 0),am (bG H .any h) H (.box k1)⟩ M) (r2:oQ ⟨am (bl d2 .any s) d2 (.ref d2 0),am (bG d2 .any h) d2 (.box k2)⟩ l2) (r3:oQ ⟨am (bl d2 .any (am (bl H .any s) H (.ref H 0))) d2 (.ref d2 0),am (bG d2 .any (am (bG H .any h) H (.box k1))) d2 (.box k2)⟩ M) (r4:oQ ⟨am (bl d2 .any (am (bl H .any s) H (.ref H 0))) d2 (.ref d2 0),am (bG d2 .any (am (bG H .any h) H (.box k1))) d2 (.box k2)⟩ l2) (hk:aD P K post ⟨am (bl d2 .any (am (bl H .any s) H (.ref H 0))) d2 (.ref d2 0),am (bG d2 .any (am (bG H .any h) H (.box k1))) d2 (.box k2)⟩):Ph P K (.x H (.boxM (.c b)) M) (.x d2 (.boxM (.c v2)) l2) post ⟨s,h⟩:=by
 constructor
 ·simp only[aD,AO,wr,ev,t,v,a,c,St.swap]
  exact⟨trivial,r1,trivial,r4,hk⟩
 ·simp only[aD,AO,wr,ev,t,v,a,c,St.swap]
  rw[P9 U (C9 U) (C9 (Ne.symm U)),P_ U (by simp only[jY,e]) (by simp only[jY,d])]
  exact⟨trivial,r2,trivial,r3,hk⟩
end Go.Proofs.YtgmnipfafmphaaaGreatDoor

