/-
  My text.
-/
import Derived.Test.YteaolfcegaidpaaGreatDoorSZEngM
namespace Go.Proofs.YteaolfcegaidpaaGreatDoor
set_option linter.unusedSimpArgs false
set_option linter.unusedVariables false
open Go.RowKit
variable {A:Type} {O:List Nat} {R S:Type} {b:Bool} {d:Nat} {l:List SO} {m1:Option Bool} {t u:Nat} {α:Type} {k:Bool->Option R} {r:R}
def nY {S A:Type} (f:S->Option (S⊕A)):Nat->S->Option A
 |0,_=>none
 |n+1,s=>match f s with
  |some (.inl F)=>nY f n F
  |some (.inr a)=>some a
  |none=>none
theorem zf {S A:Type} {f:S->Option (S⊕A)} {a:A}:∀ {n m:Nat} {s:S},n<=m->nY f n s=some a->nY f m s=some a
 |0,_,_,_,h=>by simp[nY] at h
 |n+1,0,_,h,_=>by omega
 |n+1,m+1,s,h,hl=>by
  simp only[nY] at hl⊢
  split at hl
  ·exact zf oM hl
  ·exact hl
  ·cases hl
open Classical in
noncomputable def bJ (f:S->Option (S⊕A)) (s:S):Option A:=
 if h:∃ n,(nY f n s).isSome=true then nY f (Classical.choose h) s else none
theorem zg {f:S->Option (S⊕A)} {s:S} {a:A}:bJ f s=some a↔∃ n,nY f n s=some a:=by
 unfold bJ
 constructor
 ·intro h
  split at h
  ·exact⟨_,h⟩
  ·cases h
 ·rintro⟨n,hn⟩
  have b:∃ n,(nY f n s).isSome=true:=⟨n,by rw[hn];rfl⟩
  rw[dif_pos b]
  have hc:=Classical.choose_spec b
  obtain⟨a',e⟩:=TX.1 hc
  rw[e]
  have h1:=zf (Nat.le_max_left n (Classical.choose b)) hn
  have h2:=zf (Nat.le_max_right n (Classical.choose b)) e
  rw[h1] at h2;exact h2.symm
theorem bV (f:S->Option (S⊕A)) (s:S):bJ f s=match f s with
  |some (.inl F)=>bJ f F
  |some (.inr a)=>some a
  |none=>none:=by
 apply Option.ext
 intro a
 rw[zg]
 cases hf:f s with
 |none=>
  constructor
  ·rintro⟨n,hn⟩
   cases n<;>simp[nY,hf] at hn
  ·intro h;cases h
 |some o=>
  cases o with
  |inl F=>
   simp only
   rw[zg]
   constructor
   ·rintro⟨n,hn⟩
    cases n with
    |zero=>simp[nY] at hn
    |succ n=>exact⟨n,by simpa only[nY,hf] using hn⟩
   ·rintro⟨n,hn⟩
    exact⟨n+1,by simpa only[nY,hf] using hn⟩
  |inr a'=>
   simp only
   constructor
   ·rintro⟨n,hn⟩
    cases n with
    |zero=>simp[nY] at hn
    |succ n=>simpa only[nY,hf] using hn
   ·intro hn
    exact⟨1,by simpa only[nY,hf] using hn⟩
def cm (l:List α) (i:Int):Option α:=if 0<=i then l[i.toNat]? else none
def dP (l:List α) (lo hi:Int):Option (List α):=if 0<=lo/\lo<=hi/\hi<=l.length then some ((l.take hi.toNat).drop lo.toNat) else none
def hY (b:Bool) (m:Option Bool):Option Bool:=bif b then m else some false
def DY (b:Bool) (m:Option Bool):Option Bool:=bif b then some true else m
section
variable {P:Program} {s:Nat->SV} {h:Nat->Ch} {K q:St->Prop} {sos:List SO}
theorem yr (hk:∀ σ,K σ->q σ):∀ {so:SO} {σ:St},AO P so σ K->AO P so σ q
 | .r dst op,σ,h=>by
  simp only[AO] at h⊢
  split at h
  ·exact⟨h.1,hk _ h.2⟩
  ·exact h
 | .c dst f args,σ,h=>by
  simp only[AO] at h⊢
  split at h
  ·obtain⟨C,h1,h2,E⟩:=h;exact⟨C,h1,h2,hk _ E⟩
  ·exact h
 | .o dst op,σ,h=>by
  obtain⟨h5,h1,p,v,h2,E,h4⟩:=h;exact⟨h5,h1,p,v,h2,E,hk _ h4⟩
 | .w dst op,σ,h=>by
  obtain⟨h5,h1,p,v,h2,E,h4⟩:=h;exact⟨h5,h1,p,v,h2,E,hk _ h4⟩
 | .p dst f args,σ,h=>by
  obtain⟨h5,h1,M,a2,a3,a4,a5,a,b,b1,b2,m,c,d,g⟩:=h;exact⟨h5,h1,M,a2,a3,a4,a5,a,b,b1,b2,m,c,d,hk _ g⟩
 | .x dst op late,σ,h=>by
  simp only[AO] at h⊢
  split at h
  ·exact⟨h.1,h.2.1,hk _ h.2.2⟩
  ·exact h
 | .q dst f args late,σ,h=>by
  obtain⟨M,a2,a3,a4,a5,a,b1,b2,m,c,d,g,i⟩:=h;exact⟨M,a2,a3,a4,a5,a,b1,b2,m,c,d,g,hk _ i⟩
 | .g t want dst o,σ,h=>by
  simp only[AO] at h⊢
  split at h
  ·exact⟨fun e=>yr hk (h.1 e),fun e=>hk _ (h.2 e)⟩
  ·exact hk _ h
  ·exact h
theorem yt (hk:∀ σ,K σ->q σ):∀ {sos:List SO} {σ:St},a6 P K sos σ->a6 P q sos σ
 |[],_,h=>hk _ h
 |_::_,_,h=>yr (fun _=>yt hk) h
theorem tC:∀ {l l':List SO} {σ:St},a6 P K (l++l') σ↔a6 P (a6 P K l') l σ
 |[],_,_=>Iff.rfl
 |_::_,_,_=>⟨fun h=>yr (fun _=>tC.1) h,fun h=>yr (fun _=>tC.2) h⟩
def uL:List Nat->Nat->Bool
 |[],_=>false
 |a::l,j=>if j=a then true else uL l j
def Jl (O:List Nat) (g s:Nat->SV):Nat->SV:=fun j=>if uL O j=true then g j else s j
theorem MR (O:List Nat) (g s:Nat->SV) (j:Nat):Jl O g s j=if uL O j=true then g j else s j:=rfl
def vq (O:List Nat):List SO->Bool
 |[]=>true
 |o::l=>(match kL o with|some d=>uL O d|none=>false)&&vq O l
theorem zh {O:List Nat}:∀ {l:List SO} {s F:Nat->SV},vq O l=true->(∀ j,uL O j=false->F j=s j)->a6 P K l ⟨F,h⟩->a6 P (fun σ=>K σ/\σ.h=h/\∀ j,uL O j=false->σ.s j=s j) l ⟨F,h⟩
 |[],s,F,_,ha,hk=>⟨hk,rfl,ha⟩
 |o::l,s,F,hd,ha,hk=>by
  simp only[vq,SR] at hd
  obtain⟨h1,h2⟩:=hd
  split at h1
  ·rename_i d hd
   obtain⟨v,hy,hr⟩:=HB hd hk
   refine yr (fun σ J=> ?_) (HC hd hy)
   subst J
   refine zh h2 (fun j hj=> ?_) hr
   have A:j≠d:=fun e=>by subst e;rw[hj] at h1;cases h1
   simp only[aD,A,Tv];exact ha j hj
  ·cases h1
def gw (t:Nat) (want:Bool):SO->SO
 | .g t' w d o=> .g t' w d o
 |o=> .g t want (kL o) o
def Qr (t:Nat) (want:Bool) (l:List SO):List SO:=l.map (gw t want)
def PN:List Nat->List SO->Bool
 |_,[]=>true
 |seen,.g t' _ d o::l=>uL seen t'&&(match kL o with|some e=>decide (d=some e)&&PN (e::seen) l|none=>false)
 |seen,o::l=>(match kL o with|some e=>PN (e::seen) l|none=>false)
theorem Qs {w:Bool} {d:Option Nat} {o:SO} {e:Nat} (h:kL o=some e) (hd:d=some e):kL (.g t w d o)=some e:=by
 subst hd;simp[kL,h]
theorem DZ {t:Nat} {want:Bool} {O:List Nat}:∀ {l:List SO} {s:Nat->SV},vq O l=true->uL O t=false->s t= .d (.bool want)->a6 P K l ⟨s,h⟩->a6 P K (Qr t want l) ⟨s,h⟩
 |[],_,_,_,_,hk=>hk
 |o::l,s,hd,Y,hs,hk=>by
  simp only[vq,SR] at hd
  obtain⟨h1,h2⟩:=hd
  split at h1
  ·rename_i d f
   obtain⟨v,hy,hr⟩:=HB f hk
   have A:t≠d:=fun e=>by subst e;rw[Y] at h1;cases h1
   have g:a6 P K (Qr t want l) ⟨aD s d v,h⟩:=DZ h2 Y (by simp only[aD,A,Tv];exact hs) hr
   have a:AO P o ⟨s,h⟩ (a6 P K (Qr t want l)):=yr (fun σ J=>by subst J;exact g) (HC f hy)
   have:AO P (gw t want o) ⟨s,h⟩ (a6 P K (Qr t want l)):=by
    unfold gw
    split
    ·exact a
    ·show(match s t with| .d (.bool b)=>_| .d (.tup [])=>_|_=>_)
     rw[hs]
     exact⟨fun _=>a,fun e=>by cases want<;>simp at e⟩
   exact this
  ·cases h1
theorem D0 {t:Nat} {want b:Bool} {O:List Nat} (hb:b= !want):∀ {l:List SO} {seen:List Nat} {s:Nat->SV},vq O l=true->PN seen l=true->uL O t=false->s t= .d (.bool b)->(∀ j,uL seen j=true->s j= .d (.tup []))->
  (∀ F,(∀ j,uL O j=false->F j=s j)->K ⟨F,h⟩)->a6 P K (Qr t want l) ⟨s,h⟩
 |[],_,s,_,_,_,_,_,hk=>hk s fun _ _=>rfl
 |o::l,seen,s,hd,hg,Y,hs,L,hk=>by
  simp only[vq,SR] at hd
  obtain⟨h1,h2⟩:=hd
  split at h1
  ·rename_i d f
   have A:t≠d:=fun e=>by subst e;rw[Y] at h1;cases h1
   have step:∀ a,PN (d::a) l=true->(∀ j,uL a j=true->s j= .d (.tup []))->a6 P K (Qr t want l) ⟨aD s d (.d (.tup [])),h⟩:=by
    intro a B c
    refine D0 hb h2 B Y (by simp only[aD,A,Tv];exact hs) (fun j hj=> ?_) (fun F ha=>hk F fun j hj=> ?_)
    ·simp only[uL] at hj
     by_cases x:j=d
     ·subst x;simp[aD]
     ·simp only[x,Tv] at hj;simp only[aD,x,Tv];exact c j hj
    ·rw[ha j hj]
     have:j≠d:=fun e=>by subst e;rw[hj] at h1;cases h1
     simp only[aD,this,Tv]
   cases o with
   |g t' w' d' o'=>
    simp only[PN,SR] at hg
    obtain⟨g1,g2⟩:=hg
    split at g2
    ·rename_i e J
     simp only[SR,SU] at g2
     have v0:d=e:=by have:=Qs (t:=t') (w:=w') J g2.1;rw[this] at f;exact(US f).symm
     subst v0
     show AO P (.g t' w' d' o') ⟨s,h⟩ _
     simp only[AO,L t' g1,g2.1,putS]
     exact step seen g2.2 L
    ·cases g2
   |_=>
    simp only[PN,f] at hg
    show AO P (.g t want _ _) ⟨s,h⟩ _
    simp only[AO,hs,f,putS]
    refine⟨fun e=> ?_,fun _=>step seen hg L⟩
    rw[hb] at e;cases want<;>simp at e
  ·cases h1
def H5 (u:Nat) (v:Bool):St->Prop:=fun σ=>σ.s u= .d (.bool v)
def aV (a:List Nat) (t:Nat) (want:Bool) (l T:List SO):List SO:=Qr t want l++T
theorem eh (Z:(hY b m1).bind k=some r) (hg:s t= .d (.bool b)) (hd:(vq O l&&PN [] l&& !uL O t)=true) (h1:∀ v,m1=some v->a6 P (H5 u v) l ⟨s,h⟩) (hk:∀ v g,k v=some r->a6 P K sos ⟨aD (Jl O g s) d (.d (.bool v)),h⟩):
  a6 P K (aV O t true l (.r d (.pick (.t t) (.t u) (.c (.d (.bool false))))::sos)) ⟨s,h⟩:=by
 unfold aV
 simp only[SR,TR] at hd
 obtain⟨⟨a,G⟩,c⟩:=hd
 rw[tC]
 have B:∀ (F:Nat->SV) (v:Bool),(∀ j,uL O j=false->F j=s j)->k v=some r->a6 P K sos ⟨aD F d (.d (.bool v)),h⟩:=by
  intro F v ha hv
  have:=hk v F hv
  have e:Jl O F s=F:=by
   funext j;simp only[Jl];split
   ·rfl
   ·rename_i hj;exact(ha j (by simpa using hj)).symm
  rw[e] at this;exact this
 cases b with
 |true=>
  simp only[hY,SZ] at Z
  cases hv:m1 with
  |none=>rw[hv] at Z;cases Z
  |some v=>
   rw[hv] at Z
   have h2:=DZ (t:=t) (want:=true) a c hg (zh a (fun _ _=>rfl) (h1 v hv))
   refine yt (fun σ D=> ?_) h2
   obtain⟨E,h4,h5⟩:=D
   unfold H5 at E
   have h6:σ.s t= .d (.bool true):=by rw[h5 t c];exact hg
   show AO P (.r d _) σ _
   obtain⟨f,hh⟩:=σ
   simp only at E h4 h5 h6;subst h4
   simp only[AO,rd,ev,h6,E]
   exact⟨trivial,B _ v h5 Z⟩
 |false=>
  simp only[hY,S2,SQ] at Z
  refine D0 (want:=true) rfl a G c hg (fun j hj=>by simp[uL] at hj) (fun F ha=> ?_)
  show AO P (.r d _) _ _
  have h6:F t= .d (.bool false):=by rw[ha t c];exact hg
  simp only[AO,rd,ev,h6]
  exact⟨trivial,B _ false ha Z⟩
theorem oF (Z:(DY b m1).bind k=some r) (hg:s t= .d (.bool b)) (hd:(vq O l&&PN [] l&& !uL O t)=true) (h1:∀ v,m1=some v->a6 P (H5 u v) l ⟨s,h⟩) (hk:∀ v g,k v=some r->a6 P K sos ⟨aD (Jl O g s) d (.d (.bool v)),h⟩):
  a6 P K (aV O t false l (.r d (.pick (.t t) (.c (.d (.bool true))) (.t u))::sos)) ⟨s,h⟩:=by
 unfold aV
 simp only[SR,TR] at hd
 obtain⟨⟨a,G⟩,c⟩:=hd
 rw[tC]
 have B:∀ (F:Nat->SV) (v:Bool),(∀ j,uL O j=false->F j=s j)->k v=some r->a6 P K sos ⟨aD F d (.d (.bool v)),h⟩:=by
  intro F v ha hv
  have:=hk v F hv
  have e:Jl O F s=F:=by
   funext j;simp only[Jl];split
   ·rfl
   ·rename_i hj;exact(ha j (by simpa using hj)).symm
  rw[e] at this;exact this
 cases b with
 |false=>
  simp only[DY,S2] at Z
  cases hv:m1 with
  |none=>rw[hv] at Z;cases Z
  |some v=>
   rw[hv] at Z
   have h2:=DZ (t:=t) (want:=false) a c hg (zh a (fun _ _=>rfl) (h1 v hv))
   refine yt (fun σ D=> ?_) h2
   obtain⟨E,h4,h5⟩:=D
   unfold H5 at E
   have h6:σ.s t= .d (.bool false):=by rw[h5 t c];exact hg
   show AO P (.r d _) σ _
   obtain⟨f,hh⟩:=σ
   simp only at E h4 h5 h6;subst h4
   simp only[AO,rd,ev,h6,E]
   exact⟨trivial,B _ v h5 Z⟩
 |true=>
  simp only[DY,SZ,SQ] at Z
  refine D0 (want:=false) rfl a G c hg (fun j hj=>by simp[uL] at hj) (fun F ha=> ?_)
  show AO P (.r d _) _ _
  have h6:F t= .d (.bool true):=by rw[ha t c];exact hg
  simp only[AO,rd,ev,h6]
  exact⟨trivial,B _ true ha Z⟩
end
