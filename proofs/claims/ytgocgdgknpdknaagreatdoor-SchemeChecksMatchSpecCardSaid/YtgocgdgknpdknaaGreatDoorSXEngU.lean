/-
  My text.
-/
import Derived.Test.YtgocgdgknpdknaaGreatDoorSXEngM
namespace Go.Proofs.YtgocgdgknpdknaaGreatDoor
set_option linter.unusedSimpArgs false
set_option linter.unusedVariables false
open Go.RowKit
def ku {S A:Type} (f:S->Option (S⊕A)):Nat->S->Option A
 |0,_=>none
 |n+1,s=>match f s with
  |some (.inl s')=>ku f n s'
  |some (.inr a)=>some a
  |none=>none
theorem tu {S A:Type} {f:S->Option (S⊕A)} {a:A}:∀ {n m:Nat} {s:S},n<=m->ku f n s=some a->ku f m s=some a
 |0,_,_,_,h=>by simp[ku] at h
 |n+1,0,_,h,_=>by omega
 |n+1,m+1,s,h,hl=>by
  simp only[ku] at hl⊢
  split at hl
  ·exact tu oM hl
  ·exact hl
  ·cases hl
open Classical in
noncomputable def cR {S A:Type} (f:S->Option (S⊕A)) (s:S):Option A:=
 if h:∃ n,(ku f n s).isSome=true then ku f (Classical.choose h) s else none
theorem tv {S A:Type} {f:S->Option (S⊕A)} {s:S} {a:A}:cR f s=some a↔∃ n,ku f n s=some a:=by
 unfold cR
 constructor
 ·intro h
  split at h
  ·exact⟨_,h⟩
  ·cases h
 ·rintro⟨n,hn⟩
  have hex:∃ n,(ku f n s).isSome=true:=⟨n,by rw[hn];rfl⟩
  rw[dif_pos hex]
  have hc:=Classical.choose_spec hex
  obtain⟨a',ha'⟩:=Kz.1 hc
  rw[ha']
  have h1:=tu (Nat.le_max_left n (Classical.choose hex)) hn
  have h2:=tu (Nat.le_max_right n (Classical.choose hex)) ha'
  rw[h1] at h2;exact h2.symm
theorem bM {S A:Type} (f:S->Option (S⊕A)) (s:S):cR f s=match f s with
  |some (.inl s')=>cR f s'
  |some (.inr a)=>some a
  |none=>none:=by
 apply Option.ext
 intro a
 rw[tv]
 cases hf:f s with
 |none=>
  constructor
  ·rintro⟨n,hn⟩
   cases n<;>simp[ku,hf] at hn
  ·intro h;cases h
 |some o=>
  cases o with
  |inl s'=>
   simp only
   rw[tv]
   constructor
   ·rintro⟨n,hn⟩
    cases n with
    |zero=>simp[ku] at hn
    |succ n=>exact⟨n,by simpa only[ku,hf] using hn⟩
   ·rintro⟨n,hn⟩
    exact⟨n+1,by simpa only[ku,hf] using hn⟩
  |inr a'=>
   simp only
   constructor
   ·rintro⟨n,hn⟩
    cases n with
    |zero=>simp[ku] at hn
    |succ n=>simpa only[ku,hf] using hn
   ·intro hn
    exact⟨1,by simpa only[ku,hf] using hn⟩
def cx {α:Type} (l:List α) (i:Int):Option α:=if 0<=i then l[i.toNat]? else none
def dy {α:Type} (l:List α) (lo hi:Int):Option (List α):=if 0<=lo/\lo<=hi/\hi<=l.length then some ((l.take hi.toNat).drop lo.toNat) else none
def mU (b:Bool) (m:Option Bool):Option Bool:=bif b then m else some false
def z8 (b:Bool) (m:Option Bool):Option Bool:=bif b then some true else m
section
variable {P:Program} {s:Nat->SV} {h:Nat->Ch} {K K':St->Prop} {sos:List SO}
theorem ss (hk:∀ σ,K σ->K' σ):∀ {so:SO} {σ:St},AO P so σ K->AO P so σ K'
 | .r dst op,σ,h=>by
  simp only[AO] at h⊢
  split at h
  ·exact⟨h.1,hk _ h.2⟩
  ·exact h
 | .c dst f args,σ,h=>by
  simp only[AO] at h⊢
  split at h
  ·obtain⟨res,h1,h2,h3⟩:=h;exact⟨res,h1,h2,hk _ h3⟩
  ·exact h
 | .o dst op,σ,h=>by
  obtain⟨σ1,h1,p,v,h2,h3,h4⟩:=h;exact⟨σ1,h1,p,v,h2,h3,hk _ h4⟩
 | .w dst op,σ,h=>by
  obtain⟨σ1,h1,p,v,h2,h3,h4⟩:=h;exact⟨σ1,h1,p,v,h2,h3,hk _ h4⟩
 | .p dst f args,σ,h=>by
  obtain⟨σ1,h1,a1,a2,a3,a4,a5,a6,a7,b1,b2,b3,b4,b5,b6⟩:=h;exact⟨σ1,h1,a1,a2,a3,a4,a5,a6,a7,b1,b2,b3,b4,b5,hk _ b6⟩
 | .x dst op late,σ,h=>by
  simp only[AO] at h⊢
  split at h
  ·exact⟨h.1,h.2.1,hk _ h.2.2⟩
  ·exact h
 | .q dst f args late,σ,h=>by
  obtain⟨a1,a2,a3,a4,a5,a6,b1,b2,b3,b4,b5,b6,b7⟩:=h;exact⟨a1,a2,a3,a4,a5,a6,b1,b2,b3,b4,b5,b6,hk _ b7⟩
 | .g t want dst o,σ,h=>by
  simp only[AO] at h⊢
  split at h
  ·exact⟨fun e=>ss hk (h.1 e),fun e=>hk _ (h.2 e)⟩
  ·exact hk _ h
  ·exact h
theorem su (hk:∀ σ,K σ->K' σ):∀ {sos:List SO} {σ:St},aR P K sos σ->aR P K' sos σ
 |[],_,h=>hk _ h
 |_::_,_,h=>ss (fun _=>su hk) h
theorem oo:∀ {l l':List SO} {σ:St},aR P K (l++l') σ↔aR P (aR P K l') l σ
 |[],_,_=>Iff.rfl
 |_::_,_,_=>⟨fun h=>ss (fun _=>oo.1) h,fun h=>ss (fun _=>oo.2) h⟩
def px:List Nat->Nat->Bool
 |[],_=>false
 |a::l,j=>if j=a then true else px l j
def Cs (ds:List Nat) (g s:Nat->SV):Nat->SV:=fun j=>if px ds j=true then g j else s j
theorem Fy (ds:List Nat) (g s:Nat->SV) (j:Nat):Cs ds g s j=if px ds j=true then g j else s j:=rfl
def p4 (ds:List Nat):List SO->Bool
 |[]=>true
 |o::l=>(match hJ o with|some d=>px ds d|none=>false)&&p4 ds l
theorem tw {ds:List Nat}:∀ {l:List SO} {s s':Nat->SV},p4 ds l=true->(∀ j,px ds j=false->s' j=s j)->aR P K l ⟨s',h⟩->aR P (fun σ=>K σ/\σ.h=h/\∀ j,px ds j=false->σ.s j=s j) l ⟨s',h⟩
 |[],s,s',_,ha,hk=>⟨hk,rfl,ha⟩
 |o::l,s,s',hd,ha,hk=>by
  simp only[p4,JO] at hd
  obtain⟨h1,h2⟩:=hd
  split at h1
  ·rename_i d hd
   obtain⟨v,hy,hr⟩:=AQ hd hk
   refine ss (fun σ he=> ?_) (AR hd hy)
   subst he
   refine tw h2 (fun j hj=> ?_) hr
   have hne:j≠d:=fun e=>by subst e;rw[hj] at h1;cases h1
   simp only[aI,hne,KG];exact ha j hj
  ·cases h1
def gw (t:Nat) (want:Bool):SO->SO
 | .g t' w d o=> .g t' w d o
 |o=> .g t want (hJ o) o
def H7 (t:Nat) (want:Bool) (l:List SO):List SO:=l.map (gw t want)
def Hx:List Nat->List SO->Bool
 |_,[]=>true
 |seen,.g t' _ d o::l=>px seen t'&&(match hJ o with|some e=>decide (d=some e)&&Hx (e::seen) l|none=>false)
 |seen,o::l=>(match hJ o with|some e=>Hx (e::seen) l|none=>false)
theorem H8 {t:Nat} {w:Bool} {d:Option Nat} {o:SO} {e:Nat} (h:hJ o=some e) (hd:d=some e):hJ (.g t w d o)=some e:=by
 subst hd;simp[hJ,h]
theorem xU {t:Nat} {want:Bool} {ds:List Nat}:∀ {l:List SO} {s:Nat->SV},p4 ds l=true->px ds t=false->s t= .d (.bool want)->aR P K l ⟨s,h⟩->aR P K (H7 t want l) ⟨s,h⟩
 |[],_,_,_,_,hk=>hk
 |o::l,s,hd,ht,hs,hk=>by
  simp only[p4,JO] at hd
  obtain⟨h1,h2⟩:=hd
  split at h1
  ·rename_i d hdo
   obtain⟨v,hy,hr⟩:=AQ hdo hk
   have hne:t≠d:=fun e=>by subst e;rw[ht] at h1;cases h1
   have hrest:aR P K (H7 t want l) ⟨aI s d v,h⟩:=xU h2 ht (by simp only[aI,hne,KG];exact hs) hr
   have hoo:AO P o ⟨s,h⟩ (aR P K (H7 t want l)):=ss (fun σ he=>by subst he;exact hrest) (AR hdo hy)
   have:AO P (gw t want o) ⟨s,h⟩ (aR P K (H7 t want l)):=by
    unfold gw
    split
    ·exact hoo
    ·show(match s t with| .d (.bool b)=>_| .d (.tup [])=>_|_=>_)
     rw[hs]
     exact⟨fun _=>hoo,fun e=>by cases want<;>simp at e⟩
   exact this
  ·cases h1
theorem xV {t:Nat} {want b:Bool} {ds:List Nat} (hb:b= !want):∀ {l:List SO} {seen:List Nat} {s:Nat->SV},p4 ds l=true->Hx seen l=true->px ds t=false->s t= .d (.bool b)->(∀ j,px seen j=true->s j= .d (.tup []))->
  (∀ s',(∀ j,px ds j=false->s' j=s j)->K ⟨s',h⟩)->aR P K (H7 t want l) ⟨s,h⟩
 |[],_,s,_,_,_,_,_,hk=>hk s fun _ _=>rfl
 |o::l,seen,s,hd,hg,ht,hs,hsn,hk=>by
  simp only[p4,JO] at hd
  obtain⟨h1,h2⟩:=hd
  split at h1
  ·rename_i d hdo
   have hne:t≠d:=fun e=>by subst e;rw[ht] at h1;cases h1
   have step:∀ seen',Hx (d::seen') l=true->(∀ j,px seen' j=true->s j= .d (.tup []))->aR P K (H7 t want l) ⟨aI s d (.d (.tup [])),h⟩:=by
    intro seen' hg' hsn'
    refine xV hb h2 hg' ht (by simp only[aI,hne,KG];exact hs) (fun j hj=> ?_) (fun s' ha=>hk s' fun j hj=> ?_)
    ·simp only[px] at hj
     by_cases hjd:j=d
     ·subst hjd;simp[aI]
     ·simp only[hjd,KG] at hj;simp only[aI,hjd,KG];exact hsn' j hj
    ·rw[ha j hj]
     have:j≠d:=fun e=>by subst e;rw[hj] at h1;cases h1
     simp only[aI,this,KG]
   cases o with
   |g t' w' d' o'=>
    simp only[Hx,JO] at hg
    obtain⟨g1,g2⟩:=hg
    split at g2
    ·rename_i e he
     simp only[JO,JS] at g2
     have hde:d=e:=by have:=H8 (t:=t') (w:=w') he g2.1;rw[this] at hdo;exact(LI hdo).symm
     subst hde
     show AO P (.g t' w' d' o') ⟨s,h⟩ _
     simp only[AO,hsn t' g1,g2.1,putS]
     exact step seen g2.2 hsn
    ·cases g2
   |_=>
    simp only[Hx,hdo] at hg
    show AO P (.g t want _ _) ⟨s,h⟩ _
    simp only[AO,hs,hdo,putS]
    refine⟨fun e=> ?_,fun _=>step seen hg hsn⟩
    rw[hb] at e;cases want<;>simp at e
  ·cases h1
def Bl (u:Nat) (v:Bool):St->Prop:=fun σ=>σ.s u= .d (.bool v)
def aK (_ds:List Nat) (t:Nat) (want:Bool) (l rest:List SO):List SO:=H7 t want l++rest
theorem eE {R:Type} {r:R} {t u d:Nat} {ds:List Nat} {l:List SO} {b:Bool} {m1:Option Bool} {k:Bool->Option R} (hm:(mU b m1).bind k=some r) (hg:s t= .d (.bool b)) (hd:(p4 ds l&&Hx [] l&& !px ds t)=true)
  (h1:∀ v,m1=some v->aR P (Bl u v) l ⟨s,h⟩) (hk:∀ v g,k v=some r->aR P K sos ⟨aI (Cs ds g s) d (.d (.bool v)),h⟩):
  aR P K (aK ds t true l (.r d (.pick (.t t) (.t u) (.c (.d (.bool false))))::sos)) ⟨s,h⟩:=by
 unfold aK
 simp only[JO,KE] at hd
 obtain⟨⟨hd1,hd2⟩,hd3⟩:=hd
 rw[oo]
 have fin:∀ (s':Nat->SV) (v:Bool),(∀ j,px ds j=false->s' j=s j)->k v=some r->aR P K sos ⟨aI s' d (.d (.bool v)),h⟩:=by
  intro s' v ha hv
  have:=hk v s' hv
  have e:Cs ds s' s=s':=by
   funext j;simp only[Cs];split
   ·rfl
   ·rename_i hj;exact(ha j (by simpa using hj)).symm
  rw[e] at this;exact this
 cases b with
 |true=>
  simp only[mU,J1] at hm
  cases hv:m1 with
  |none=>rw[hv] at hm;cases hm
  |some v=>
   rw[hv] at hm
   have h2:=xU (t:=t) (want:=true) hd1 hd3 hg (tw hd1 (fun _ _=>rfl) (h1 v hv))
   refine su (fun σ hσ=> ?_) h2
   obtain⟨h3,h4,h5⟩:=hσ
   unfold Bl at h3
   have h6:σ.s t= .d (.bool true):=by rw[h5 t hd3];exact hg
   show AO P (.r d _) σ _
   obtain⟨sσ,hh⟩:=σ
   simp only at h3 h4 h5 h6;subst h4
   simp only[AO,rd,ev,h6,h3]
   exact⟨trivial,fin _ v h5 hm⟩
 |false=>
  simp only[mU,J4,JP] at hm
  refine xV (want:=true) rfl hd1 hd2 hd3 hg (fun j hj=>by simp[px] at hj) (fun s' ha=> ?_)
  show AO P (.r d _) _ _
  have h6:s' t= .d (.bool false):=by rw[ha t hd3];exact hg
  simp only[AO,rd,ev,h6]
  exact⟨trivial,fin _ false ha hm⟩
theorem mV {R:Type} {r:R} {t u d:Nat} {ds:List Nat} {l:List SO} {b:Bool} {m1:Option Bool} {k:Bool->Option R} (hm:(z8 b m1).bind k=some r) (hg:s t= .d (.bool b)) (hd:(p4 ds l&&Hx [] l&& !px ds t)=true)
  (h1:∀ v,m1=some v->aR P (Bl u v) l ⟨s,h⟩) (hk:∀ v g,k v=some r->aR P K sos ⟨aI (Cs ds g s) d (.d (.bool v)),h⟩):
  aR P K (aK ds t false l (.r d (.pick (.t t) (.c (.d (.bool true))) (.t u))::sos)) ⟨s,h⟩:=by
 unfold aK
 simp only[JO,KE] at hd
 obtain⟨⟨hd1,hd2⟩,hd3⟩:=hd
 rw[oo]
 have fin:∀ (s':Nat->SV) (v:Bool),(∀ j,px ds j=false->s' j=s j)->k v=some r->aR P K sos ⟨aI s' d (.d (.bool v)),h⟩:=by
  intro s' v ha hv
  have:=hk v s' hv
  have e:Cs ds s' s=s':=by
   funext j;simp only[Cs];split
   ·rfl
   ·rename_i hj;exact(ha j (by simpa using hj)).symm
  rw[e] at this;exact this
 cases b with
 |false=>
  simp only[z8,J4] at hm
  cases hv:m1 with
  |none=>rw[hv] at hm;cases hm
  |some v=>
   rw[hv] at hm
   have h2:=xU (t:=t) (want:=false) hd1 hd3 hg (tw hd1 (fun _ _=>rfl) (h1 v hv))
   refine su (fun σ hσ=> ?_) h2
   obtain⟨h3,h4,h5⟩:=hσ
   unfold Bl at h3
   have h6:σ.s t= .d (.bool false):=by rw[h5 t hd3];exact hg
   show AO P (.r d _) σ _
   obtain⟨sσ,hh⟩:=σ
   simp only at h3 h4 h5 h6;subst h4
   simp only[AO,rd,ev,h6,h3]
   exact⟨trivial,fin _ v h5 hm⟩
 |true=>
  simp only[z8,J1,JP] at hm
  refine xV (want:=false) rfl hd1 hd2 hd3 hg (fun j hj=>by simp[px] at hj) (fun s' ha=> ?_)
  show AO P (.r d _) _ _
  have h6:s' t= .d (.bool true):=by rw[ha t hd3];exact hg
  simp only[AO,rd,ev,h6]
  exact⟨trivial,fin _ true ha hm⟩
end
