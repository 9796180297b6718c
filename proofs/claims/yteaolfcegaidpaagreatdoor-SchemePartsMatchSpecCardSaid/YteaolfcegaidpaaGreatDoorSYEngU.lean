/-
  My text.
-/
import Derived.Test.YteaolfcegaidpaaGreatDoorSYEngM
namespace Go.Proofs.YteaolfcegaidpaaGreatDoor
set_option linter.unusedSimpArgs false
set_option linter.unusedVariables false
open Go.RowKit
def nw {S A:Type} (f:S->Option (S⊕A)):Nat->S->Option A
 |0,_=>none
 |n+1,s=>match f s with
  |some (.inl s')=>nw f n s'
  |some (.inr a)=>some a
  |none=>none
theorem xp {S A:Type} {f:S->Option (S⊕A)} {a:A}:∀ {n m:Nat} {s:S},n<=m->nw f n s=some a->nw f m s=some a
 |0,_,_,_,h=>by simp[nw] at h
 |n+1,0,_,h,_=>by omega
 |n+1,m+1,s,h,hl=>by
  simp only[nw] at hl⊢
  split at hl
  ·exact xp oM hl
  ·exact hl
  ·cases hl
open Classical in
noncomputable def bx {S A:Type} (f:S->Option (S⊕A)) (s:S):Option A:=
 if h:∃ n,(nw f n s).isSome=true then nw f (Classical.choose h) s else none
theorem xq {S A:Type} {f:S->Option (S⊕A)} {s:S} {a:A}:bx f s=some a↔∃ n,nw f n s=some a:=by
 unfold bx
 constructor
 ·intro h
  split at h
  ·exact⟨_,h⟩
  ·cases h
 ·rintro⟨n,hn⟩
  have hex:∃ n,(nw f n s).isSome=true:=⟨n,by rw[hn];rfl⟩
  rw[dif_pos hex]
  have hc:=Classical.choose_spec hex
  obtain⟨a',ha'⟩:=Pu.1 hc
  rw[ha']
  have h1:=xp (Nat.le_max_left n (Classical.choose hex)) hn
  have h2:=xp (Nat.le_max_right n (Classical.choose hex)) ha'
  rw[h1] at h2;exact h2.symm
theorem ct {S A:Type} (f:S->Option (S⊕A)) (s:S):bx f s=match f s with
  |some (.inl s')=>bx f s'
  |some (.inr a)=>some a
  |none=>none:=by
 apply Option.ext
 intro a
 rw[xq]
 cases hf:f s with
 |none=>
  constructor
  ·rintro⟨n,hn⟩
   cases n<;>simp[nw,hf] at hn
  ·intro h;cases h
 |some o=>
  cases o with
  |inl s'=>
   simp only
   rw[xq]
   constructor
   ·rintro⟨n,hn⟩
    cases n with
    |zero=>simp[nw] at hn
    |succ n=>exact⟨n,by simpa only[nw,hf] using hn⟩
   ·rintro⟨n,hn⟩
    exact⟨n+1,by simpa only[nw,hf] using hn⟩
  |inr a'=>
   simp only
   constructor
   ·rintro⟨n,hn⟩
    cases n with
    |zero=>simp[nw] at hn
    |succ n=>simpa only[nw,hf] using hn
   ·intro hn
    exact⟨1,by simpa only[nw,hf] using hn⟩
def dg {α:Type} (l:List α) (i:Int):Option α:=if 0<=i then l[i.toNat]? else none
def fh {α:Type} (l:List α) (lo hi:Int):Option (List α):=if 0<=lo/\lo<=hi/\hi<=l.length then some ((l.take hi.toNat).drop lo.toNat) else none
def kn (b:Bool) (m:Option Bool):Option Bool:=bif b then m else some false
def Dl (b:Bool) (m:Option Bool):Option Bool:=bif b then some true else m
section
variable {P:Program} {s:Nat->SV} {h:Nat->Ch} {K K':St->Prop} {sos:List SO}
theorem wn (hk:∀ σ,K σ->K' σ):∀ {so:SO} {σ:St},AO P so σ K->AO P so σ K'
 | .r dst op,σ,h=>by
  simp only[AO] at h⊢
  split at h
  ·exact⟨h.1,hk _ h.2⟩
  ·exact h
 | .c dst f args,σ,h=>by
  simp only[AO] at h⊢
  split at h
  ·obtain⟨res,h1,h2,h3⟩:=h;exact⟨res,h1,h2,hk _ h3⟩
  ·exact h
 | .o dst op,σ,h=>by
  obtain⟨σ1,h1,p,v,h2,h3,h4⟩:=h;exact⟨σ1,h1,p,v,h2,h3,hk _ h4⟩
 | .w dst op,σ,h=>by
  obtain⟨σ1,h1,p,v,h2,h3,h4⟩:=h;exact⟨σ1,h1,p,v,h2,h3,hk _ h4⟩
 | .p dst f args,σ,h=>by
  obtain⟨σ1,h1,a1,a2,a3,a4,a5,a6,a7,b1,b2,b3,b4,b5,b6⟩:=h;exact⟨σ1,h1,a1,a2,a3,a4,a5,a6,a7,b1,b2,b3,b4,b5,hk _ b6⟩
 | .x dst op late,σ,h=>by
  simp only[AO] at h⊢
  split at h
  ·exact⟨h.1,h.2.1,hk _ h.2.2⟩
  ·exact h
 | .q dst f args late,σ,h=>by
  obtain⟨a1,a2,a3,a4,a5,a6,b1,b2,b3,b4,b5,b6,b7⟩:=h;exact⟨a1,a2,a3,a4,a5,a6,b1,b2,b3,b4,b5,b6,hk _ b7⟩
 | .g t want dst o,σ,h=>by
  simp only[AO] at h⊢
  split at h
  ·exact⟨fun e=>wn hk (h.1 e),fun e=>hk _ (h.2 e)⟩
  ·exact hk _ h
  ·exact h
theorem wo (hk:∀ σ,K σ->K' σ):∀ {sos:List SO} {σ:St},bh P K sos σ->bh P K' sos σ
 |[],_,h=>hk _ h
 |_::_,_,h=>wn (fun _=>wo hk) h
theorem rP:∀ {l l':List SO} {σ:St},bh P K (l++l') σ↔bh P (bh P K l') l σ
 |[],_,_=>Iff.rfl
 |_::_,_,_=>⟨fun h=>wn (fun _=>rP.1) h,fun h=>wn (fun _=>rP.2) h⟩
def sK:List Nat->Nat->Bool
 |[],_=>false
 |a::l,j=>if j=a then true else sK l j
def GA (ds:List Nat) (g s:Nat->SV):Nat->SV:=fun j=>if sK ds j=true then g j else s j
theorem JV (ds:List Nat) (g s:Nat->SV) (j:Nat):GA ds g s j=if sK ds j=true then g j else s j:=rfl
def tq (ds:List Nat):List SO->Bool
 |[]=>true
 |o::l=>(match kl o with|some d=>sK ds d|none=>false)&&tq ds l
theorem xr {ds:List Nat}:∀ {l:List SO} {s s':Nat->SV},tq ds l=true->(∀ j,sK ds j=false->s' j=s j)->bh P K l ⟨s',h⟩->bh P (fun σ=>K σ/\σ.h=h/\∀ j,sK ds j=false->σ.s j=s j) l ⟨s',h⟩
 |[],s,s',_,ha,hk=>⟨hk,rfl,ha⟩
 |o::l,s,s',hd,ha,hk=>by
  simp only[tq,Oz] at hd
  obtain⟨h1,h2⟩:=hd
  split at h1
  ·rename_i d hd
   obtain⟨v,hy,hr⟩:=ES hd hk
   refine wn (fun σ he=> ?_) (ET hd hy)
   subst he
   refine xr h2 (fun j hj=> ?_) hr
   have hne:j≠d:=fun e=>by subst e;rw[hj] at h1;cases h1
   simp only[aH,hne,Pp];exact ha j hj
  ·cases h1
def gw (t:Nat) (want:Bool):SO->SO
 | .g t' w d o=> .g t' w d o
 |o=> .g t want (kl o) o
def MS (t:Nat) (want:Bool) (l:List SO):List SO:=l.map (gw t want)
def Mi:List Nat->List SO->Bool
 |_,[]=>true
 |seen,.g t' _ d o::l=>sK seen t'&&(match kl o with|some e=>decide (d=some e)&&Mi (e::seen) l|none=>false)
 |seen,o::l=>(match kl o with|some e=>Mi (e::seen) l|none=>false)
theorem MT {t:Nat} {w:Bool} {d:Option Nat} {o:SO} {e:Nat} (h:kl o=some e) (hd:d=some e):kl (.g t w d o)=some e:=by
 subst hd;simp[kl,h]
theorem BX {t:Nat} {want:Bool} {ds:List Nat}:∀ {l:List SO} {s:Nat->SV},tq ds l=true->sK ds t=false->s t= .d (.bool want)->bh P K l ⟨s,h⟩->bh P K (MS t want l) ⟨s,h⟩
 |[],_,_,_,_,hk=>hk
 |o::l,s,hd,ht,hs,hk=>by
  simp only[tq,Oz] at hd
  obtain⟨h1,h2⟩:=hd
  split at h1
  ·rename_i d hdo
   obtain⟨v,hy,hr⟩:=ES hdo hk
   have hne:t≠d:=fun e=>by subst e;rw[ht] at h1;cases h1
   have hrest:bh P K (MS t want l) ⟨aH s d v,h⟩:=BX h2 ht (by simp only[aH,hne,Pp];exact hs) hr
   have hoo:AO P o ⟨s,h⟩ (bh P K (MS t want l)):=wn (fun σ he=>by subst he;exact hrest) (ET hdo hy)
   have:AO P (gw t want o) ⟨s,h⟩ (bh P K (MS t want l)):=by
    unfold gw
    split
    ·exact hoo
    ·show(match s t with| .d (.bool b)=>_| .d (.tup [])=>_|_=>_)
     rw[hs]
     exact⟨fun _=>hoo,fun e=>by cases want<;>simp at e⟩
   exact this
  ·cases h1
theorem BZ {t:Nat} {want b:Bool} {ds:List Nat} (hb:b= !want):∀ {l:List SO} {seen:List Nat} {s:Nat->SV},tq ds l=true->Mi seen l=true->sK ds t=false->s t= .d (.bool b)->(∀ j,sK seen j=true->s j= .d (.tup []))->
  (∀ s',(∀ j,sK ds j=false->s' j=s j)->K ⟨s',h⟩)->bh P K (MS t want l) ⟨s,h⟩
 |[],_,s,_,_,_,_,_,hk=>hk s fun _ _=>rfl
 |o::l,seen,s,hd,hg,ht,hs,hsn,hk=>by
  simp only[tq,Oz] at hd
  obtain⟨h1,h2⟩:=hd
  split at h1
  ·rename_i d hdo
   have hne:t≠d:=fun e=>by subst e;rw[ht] at h1;cases h1
   have step:∀ seen',Mi (d::seen') l=true->(∀ j,sK seen' j=true->s j= .d (.tup []))->bh P K (MS t want l) ⟨aH s d (.d (.tup [])),h⟩:=by
    intro seen' hg' hsn'
    refine BZ hb h2 hg' ht (by simp only[aH,hne,Pp];exact hs) (fun j hj=> ?_) (fun s' ha=>hk s' fun j hj=> ?_)
    ·simp only[sK] at hj
     by_cases hjd:j=d
     ·subst hjd;simp[aH]
     ·simp only[hjd,Pp] at hj;simp only[aH,hjd,Pp];exact hsn' j hj
    ·rw[ha j hj]
     have:j≠d:=fun e=>by subst e;rw[hj] at h1;cases h1
     simp only[aH,this,Pp]
   cases o with
   |g t' w' d' o'=>
    simp only[Mi,Oz] at hg
    obtain⟨g1,g2⟩:=hg
    split at g2
    ·rename_i e he
     simp only[Oz,OC] at g2
     have hde:d=e:=by have:=MT (t:=t') (w:=w') he g2.1;rw[this] at hdo;exact(QD hdo).symm
     subst hde
     show AO P (.g t' w' d' o') ⟨s,h⟩ _
     simp only[AO,hsn t' g1,g2.1,putS]
     exact step seen g2.2 hsn
    ·cases g2
   |_=>
    simp only[Mi,hdo] at hg
    show AO P (.g t want _ _) ⟨s,h⟩ _
    simp only[AO,hs,hdo,putS]
    refine⟨fun e=> ?_,fun _=>step seen hg hsn⟩
    rw[hb] at e;cases want<;>simp at e
  ·cases h1
def Fo (u:Nat) (v:Bool):St->Prop:=fun σ=>σ.s u= .d (.bool v)
def aV (_ds:List Nat) (t:Nat) (want:Bool) (l rest:List SO):List SO:=MS t want l++rest
theorem fG {R:Type} {r:R} {t u d:Nat} {ds:List Nat} {l:List SO} {b:Bool} {m1:Option Bool} {k:Bool->Option R} (hm:(kn b m1).bind k=some r) (hg:s t= .d (.bool b)) (hd:(tq ds l&&Mi [] l&& !sK ds t)=true)
  (h1:∀ v,m1=some v->bh P (Fo u v) l ⟨s,h⟩) (hk:∀ v g,k v=some r->bh P K sos ⟨aH (GA ds g s) d (.d (.bool v)),h⟩):
  bh P K (aV ds t true l (.r d (.pick (.t t) (.t u) (.c (.d (.bool false))))::sos)) ⟨s,h⟩:=by
 unfold aV
 simp only[Oz,Pz] at hd
 obtain⟨⟨hd1,hd2⟩,hd3⟩:=hd
 rw[rP]
 have fin:∀ (s':Nat->SV) (v:Bool),(∀ j,sK ds j=false->s' j=s j)->k v=some r->bh P K sos ⟨aH s' d (.d (.bool v)),h⟩:=by
  intro s' v ha hv
  have:=hk v s' hv
  have e:GA ds s' s=s':=by
   funext j;simp only[GA];split
   ·rfl
   ·rename_i hj;exact(ha j (by simpa using hj)).symm
  rw[e] at this;exact this
 cases b with
 |true=>
  simp only[kn,OL] at hm
  cases hv:m1 with
  |none=>rw[hv] at hm;cases hm
  |some v=>
   rw[hv] at hm
   have h2:=BX (t:=t) (want:=true) hd1 hd3 hg (xr hd1 (fun _ _=>rfl) (h1 v hv))
   refine wo (fun σ hσ=> ?_) h2
   obtain⟨h3,h4,h5⟩:=hσ
   unfold Fo at h3
   have h6:σ.s t= .d (.bool true):=by rw[h5 t hd3];exact hg
   show AO P (.r d _) σ _
   obtain⟨sσ,hh⟩:=σ
   simp only at h3 h4 h5 h6;subst h4
   simp only[AO,rd,ev,h6,h3]
   exact⟨trivial,fin _ v h5 hm⟩
 |false=>
  simp only[kn,OO,OA] at hm
  refine BZ (want:=true) rfl hd1 hd2 hd3 hg (fun j hj=>by simp[sK] at hj) (fun s' ha=> ?_)
  show AO P (.r d _) _ _
  have h6:s' t= .d (.bool false):=by rw[ha t hd3];exact hg
  simp only[AO,rd,ev,h6]
  exact⟨trivial,fin _ false ha hm⟩
theorem qC {R:Type} {r:R} {t u d:Nat} {ds:List Nat} {l:List SO} {b:Bool} {m1:Option Bool} {k:Bool->Option R} (hm:(Dl b m1).bind k=some r) (hg:s t= .d (.bool b)) (hd:(tq ds l&&Mi [] l&& !sK ds t)=true)
  (h1:∀ v,m1=some v->bh P (Fo u v) l ⟨s,h⟩) (hk:∀ v g,k v=some r->bh P K sos ⟨aH (GA ds g s) d (.d (.bool v)),h⟩):
  bh P K (aV ds t false l (.r d (.pick (.t t) (.c (.d (.bool true))) (.t u))::sos)) ⟨s,h⟩:=by
 unfold aV
 simp only[Oz,Pz] at hd
 obtain⟨⟨hd1,hd2⟩,hd3⟩:=hd
 rw[rP]
 have fin:∀ (s':Nat->SV) (v:Bool),(∀ j,sK ds j=false->s' j=s j)->k v=some r->bh P K sos ⟨aH s' d (.d (.bool v)),h⟩:=by
  intro s' v ha hv
  have:=hk v s' hv
  have e:GA ds s' s=s':=by
   funext j;simp only[GA];split
   ·rfl
   ·rename_i hj;exact(ha j (by simpa using hj)).symm
  rw[e] at this;exact this
 cases b with
 |false=>
  simp only[Dl,OO] at hm
  cases hv:m1 with
  |none=>rw[hv] at hm;cases hm
  |some v=>
   rw[hv] at hm
   have h2:=BX (t:=t) (want:=false) hd1 hd3 hg (xr hd1 (fun _ _=>rfl) (h1 v hv))
   refine wo (fun σ hσ=> ?_) h2
   obtain⟨h3,h4,h5⟩:=hσ
   unfold Fo at h3
   have h6:σ.s t= .d (.bool false):=by rw[h5 t hd3];exact hg
   show AO P (.r d _) σ _
   obtain⟨sσ,hh⟩:=σ
   simp only at h3 h4 h5 h6;subst h4
   simp only[AO,rd,ev,h6,h3]
   exact⟨trivial,fin _ v h5 hm⟩
 |true=>
  simp only[Dl,OL,OA] at hm
  refine BZ (want:=false) rfl hd1 hd2 hd3 hg (fun j hj=>by simp[sK] at hj) (fun s' ha=> ?_)
  show AO P (.r d _) _ _
  have h6:s' t= .d (.bool true):=by rw[ha t hd3];exact hg
  simp only[AO,rd,ev,h6]
  exact⟨trivial,fin _ true ha hm⟩
end
