/-
  My text.
-/
import Derived.Test.YteaolfcegaidpaaGreatDoorSXEngM
namespace Go.Proofs.YteaolfcegaidpaaGreatDoor
set_option linter.unusedSimpArgs false
set_option linter.unusedVariables false
open Go.RowKit
def mw {S A:Type} (f:S->Option (S⊕A)):Nat->S->Option A
 |0,_=>none
 |n+1,s=>match f s with
  |some (.inl s')=>mw f n s'
  |some (.inr a)=>some a
  |none=>none
theorem vL {S A:Type} {f:S->Option (S⊕A)} {a:A}:∀ {n m:Nat} {s:S},n<=m->mw f n s=some a->mw f m s=some a
 |0,_,_,_,h=>by simp[mw] at h
 |n+1,0,_,h,_=>by omega
 |n+1,m+1,s,h,hl=>by
  simp only[mw] at hl⊢
  split at hl
  ·exact vL oM hl
  ·exact hl
  ·cases hl
open Classical in
noncomputable def dD {S A:Type} (f:S->Option (S⊕A)) (s:S):Option A:=
 if h:∃ n,(mw f n s).isSome=true then mw f (Classical.choose h) s else none
theorem vM {S A:Type} {f:S->Option (S⊕A)} {s:S} {a:A}:dD f s=some a↔∃ n,mw f n s=some a:=by
 unfold dD
 constructor
 ·intro h
  split at h
  ·exact⟨_,h⟩
  ·cases h
 ·rintro⟨n,hn⟩
  have hex:∃ n,(mw f n s).isSome=true:=⟨n,by rw[hn];rfl⟩
  rw[dif_pos hex]
  have hc:=Classical.choose_spec hex
  obtain⟨a',ha'⟩:=MV.1 hc
  rw[ha']
  have h1:=vL (Nat.le_max_left n (Classical.choose hex)) hn
  have h2:=vL (Nat.le_max_right n (Classical.choose hex)) ha'
  rw[h1] at h2;exact h2.symm
theorem ck {S A:Type} (f:S->Option (S⊕A)) (s:S):dD f s=match f s with
  |some (.inl s')=>dD f s'
  |some (.inr a)=>some a
  |none=>none:=by
 apply Option.ext
 intro a
 rw[vM]
 cases hf:f s with
 |none=>
  constructor
  ·rintro⟨n,hn⟩
   cases n<;>simp[mw,hf] at hn
  ·intro h;cases h
 |some o=>
  cases o with
  |inl s'=>
   simp only
   rw[vM]
   constructor
   ·rintro⟨n,hn⟩
    cases n with
    |zero=>simp[mw] at hn
    |succ n=>exact⟨n,by simpa only[mw,hf] using hn⟩
   ·rintro⟨n,hn⟩
    exact⟨n+1,by simpa only[mw,hf] using hn⟩
  |inr a'=>
   simp only
   constructor
   ·rintro⟨n,hn⟩
    cases n with
    |zero=>simp[mw] at hn
    |succ n=>simpa only[mw,hf] using hn
   ·intro hn
    exact⟨1,by simpa only[mw,hf] using hn⟩
def b_ {α:Type} (l:List α) (i:Int):Option α:=if 0<=i then l[i.toNat]? else none
def eu {α:Type} (l:List α) (lo hi:Int):Option (List α):=if 0<=lo/\lo<=hi/\hi<=l.length then some ((l.take hi.toNat).drop lo.toNat) else none
def ov (b:Bool) (m:Option Bool):Option Bool:=bif b then m else some false
def BE (b:Bool) (m:Option Bool):Option Bool:=bif b then some true else m
section
variable {P:Program} {s:Nat->SV} {h:Nat->Ch} {K K':St->Prop} {sos:List SO}
theorem uL (hk:∀ σ,K σ->K' σ):∀ {so:SO} {σ:St},AO P so σ K->AO P so σ K'
 | .r dst op,σ,h=>by
  simp only[AO] at h⊢
  split at h
  ·exact⟨h.1,hk _ h.2⟩
  ·exact h
 | .c dst f args,σ,h=>by
  simp only[AO] at h⊢
  split at h
  ·obtain⟨res,h1,h2,h3⟩:=h;exact⟨res,h1,h2,hk _ h3⟩
  ·exact h
 | .o dst op,σ,h=>by
  obtain⟨σ1,h1,p,v,h2,h3,h4⟩:=h;exact⟨σ1,h1,p,v,h2,h3,hk _ h4⟩
 | .w dst op,σ,h=>by
  obtain⟨σ1,h1,p,v,h2,h3,h4⟩:=h;exact⟨σ1,h1,p,v,h2,h3,hk _ h4⟩
 | .p dst f args,σ,h=>by
  obtain⟨σ1,h1,a1,a2,a3,a4,a5,a6,a7,b1,b2,b3,b4,b5,b6⟩:=h;exact⟨σ1,h1,a1,a2,a3,a4,a5,a6,a7,b1,b2,b3,b4,b5,hk _ b6⟩
 | .x dst op late,σ,h=>by
  simp only[AO] at h⊢
  split at h
  ·exact⟨h.1,h.2.1,hk _ h.2.2⟩
  ·exact h
 | .q dst f args late,σ,h=>by
  obtain⟨a1,a2,a3,a4,a5,a6,b1,b2,b3,b4,b5,b6,b7⟩:=h;exact⟨a1,a2,a3,a4,a5,a6,b1,b2,b3,b4,b5,b6,hk _ b7⟩
 | .g t want dst o,σ,h=>by
  simp only[AO] at h⊢
  split at h
  ·exact⟨fun e=>uL hk (h.1 e),fun e=>hk _ (h.2 e)⟩
  ·exact hk _ h
  ·exact h
theorem uM (hk:∀ σ,K σ->K' σ):∀ {sos:List SO} {σ:St},ba P K sos σ->ba P K' sos σ
 |[],_,h=>hk _ h
 |_::_,_,h=>uL (fun _=>uM hk) h
theorem qu:∀ {l l':List SO} {σ:St},ba P K (l++l') σ↔ba P (ba P K l') l σ
 |[],_,_=>Iff.rfl
 |_::_,_,_=>⟨fun h=>uL (fun _=>qu.1) h,fun h=>uL (fun _=>qu.2) h⟩
def rh:List Nat->Nat->Bool
 |[],_=>false
 |a::l,j=>if j=a then true else rh l j
def EM (ds:List Nat) (g s:Nat->SV):Nat->SV:=fun j=>if rh ds j=true then g j else s j
theorem HY (ds:List Nat) (g s:Nat->SV) (j:Nat):EM ds g s j=if rh ds j=true then g j else s j:=rfl
def rQ (ds:List Nat):List SO->Bool
 |[]=>true
 |o::l=>(match jA o with|some d=>rh ds d|none=>false)&&rQ ds l
theorem vN {ds:List Nat}:∀ {l:List SO} {s s':Nat->SV},rQ ds l=true->(∀ j,rh ds j=false->s' j=s j)->ba P K l ⟨s',h⟩->ba P (fun σ=>K σ/\σ.h=h/\∀ j,rh ds j=false->σ.s j=s j) l ⟨s',h⟩
 |[],s,s',_,ha,hk=>⟨hk,rfl,ha⟩
 |o::l,s,s',hd,ha,hk=>by
  simp only[rQ,L9] at hd
  obtain⟨h1,h2⟩:=hd
  split at h1
  ·rename_i d hd
   obtain⟨v,hy,hr⟩:=Db hd hk
   refine uL (fun σ he=> ?_) (Dc hd hy)
   subst he
   refine vN h2 (fun j hj=> ?_) hr
   have hne:j≠d:=fun e=>by subst e;rw[hj] at h1;cases h1
   simp only[ay,hne,MZ];exact ha j hj
  ·cases h1
def gw (t:Nat) (want:Bool):SO->SO
 | .g t' w d o=> .g t' w d o
 |o=> .g t want (jA o) o
def Ku (t:Nat) (want:Bool) (l:List SO):List SO:=l.map (gw t want)
def JO:List Nat->List SO->Bool
 |_,[]=>true
 |seen,.g t' _ d o::l=>rh seen t'&&(match jA o with|some e=>decide (d=some e)&&JO (e::seen) l|none=>false)
 |seen,o::l=>(match jA o with|some e=>JO (e::seen) l|none=>false)
theorem Kv {t:Nat} {w:Bool} {d:Option Nat} {o:SO} {e:Nat} (h:jA o=some e) (hd:d=some e):jA (.g t w d o)=some e:=by
 subst hd;simp[jA,h]
theorem Ab {t:Nat} {want:Bool} {ds:List Nat}:∀ {l:List SO} {s:Nat->SV},rQ ds l=true->rh ds t=false->s t= .d (.bool want)->ba P K l ⟨s,h⟩->ba P K (Ku t want l) ⟨s,h⟩
 |[],_,_,_,_,hk=>hk
 |o::l,s,hd,ht,hs,hk=>by
  simp only[rQ,L9] at hd
  obtain⟨h1,h2⟩:=hd
  split at h1
  ·rename_i d hdo
   obtain⟨v,hy,hr⟩:=Db hdo hk
   have hne:t≠d:=fun e=>by subst e;rw[ht] at h1;cases h1
   have hrest:ba P K (Ku t want l) ⟨ay s d v,h⟩:=Ab h2 ht (by simp only[ay,hne,MZ];exact hs) hr
   have hoo:AO P o ⟨s,h⟩ (ba P K (Ku t want l)):=uL (fun σ he=>by subst he;exact hrest) (Dc hdo hy)
   have:AO P (gw t want o) ⟨s,h⟩ (ba P K (Ku t want l)):=by
    unfold gw
    split
    ·exact hoo
    ·show(match s t with| .d (.bool b)=>_| .d (.tup [])=>_|_=>_)
     rw[hs]
     exact⟨fun _=>hoo,fun e=>by cases want<;>simp at e⟩
   exact this
  ·cases h1
theorem Ac {t:Nat} {want b:Bool} {ds:List Nat} (hb:b= !want):∀ {l:List SO} {seen:List Nat} {s:Nat->SV},rQ ds l=true->JO seen l=true->rh ds t=false->s t= .d (.bool b)->(∀ j,rh seen j=true->s j= .d (.tup []))->
  (∀ s',(∀ j,rh ds j=false->s' j=s j)->K ⟨s',h⟩)->ba P K (Ku t want l) ⟨s,h⟩
 |[],_,s,_,_,_,_,_,hk=>hk s fun _ _=>rfl
 |o::l,seen,s,hd,hg,ht,hs,hsn,hk=>by
  simp only[rQ,L9] at hd
  obtain⟨h1,h2⟩:=hd
  split at h1
  ·rename_i d hdo
   have hne:t≠d:=fun e=>by subst e;rw[ht] at h1;cases h1
   have step:∀ seen',JO (d::seen') l=true->(∀ j,rh seen' j=true->s j= .d (.tup []))->ba P K (Ku t want l) ⟨ay s d (.d (.tup [])),h⟩:=by
    intro seen' hg' hsn'
    refine Ac hb h2 hg' ht (by simp only[ay,hne,MZ];exact hs) (fun j hj=> ?_) (fun s' ha=>hk s' fun j hj=> ?_)
    ·simp only[rh] at hj
     by_cases hjd:j=d
     ·subst hjd;simp[ay]
     ·simp only[hjd,MZ] at hj;simp only[ay,hjd,MZ];exact hsn' j hj
    ·rw[ha j hj]
     have:j≠d:=fun e=>by subst e;rw[hj] at h1;cases h1
     simp only[ay,this,MZ]
   cases o with
   |g t' w' d' o'=>
    simp only[JO,L9] at hg
    obtain⟨g1,g2⟩:=hg
    split at g2
    ·rename_i e he
     simp only[L9,Ma] at g2
     have hde:d=e:=by have:=Kv (t:=t') (w:=w') he g2.1;rw[this] at hdo;exact(NR hdo).symm
     subst hde
     show AO P (.g t' w' d' o') ⟨s,h⟩ _
     simp only[AO,hsn t' g1,g2.1,putS]
     exact step seen g2.2 hsn
    ·cases g2
   |_=>
    simp only[JO,hdo] at hg
    show AO P (.g t want _ _) ⟨s,h⟩ _
    simp only[AO,hs,hdo,putS]
    refine⟨fun e=> ?_,fun _=>step seen hg hsn⟩
    rw[hb] at e;cases want<;>simp at e
  ·cases h1
def DK (u:Nat) (v:Bool):St->Prop:=fun σ=>σ.s u= .d (.bool v)
def aI (_ds:List Nat) (t:Nat) (want:Bool) (l rest:List SO):List SO:=Ku t want l++rest
theorem ed {R:Type} {r:R} {t u d:Nat} {ds:List Nat} {l:List SO} {b:Bool} {m1:Option Bool} {k:Bool->Option R} (hm:(ov b m1).bind k=some r) (hg:s t= .d (.bool b)) (hd:(rQ ds l&&JO [] l&& !rh ds t)=true)
  (h1:∀ v,m1=some v->ba P (DK u v) l ⟨s,h⟩) (hk:∀ v g,k v=some r->ba P K sos ⟨ay (EM ds g s) d (.d (.bool v)),h⟩):
  ba P K (aI ds t true l (.r d (.pick (.t t) (.t u) (.c (.d (.bool false))))::sos)) ⟨s,h⟩:=by
 unfold aI
 simp only[L9,M2] at hd
 obtain⟨⟨hd1,hd2⟩,hd3⟩:=hd
 rw[qu]
 have fin:∀ (s':Nat->SV) (v:Bool),(∀ j,rh ds j=false->s' j=s j)->k v=some r->ba P K sos ⟨ay s' d (.d (.bool v)),h⟩:=by
  intro s' v ha hv
  have:=hk v s' hv
  have e:EM ds s' s=s':=by
   funext j;simp only[EM];split
   ·rfl
   ·rename_i hj;exact(ha j (by simpa using hj)).symm
  rw[e] at this;exact this
 cases b with
 |true=>
  simp only[ov,Mf] at hm
  cases hv:m1 with
  |none=>rw[hv] at hm;cases hm
  |some v=>
   rw[hv] at hm
   have h2:=Ab (t:=t) (want:=true) hd1 hd3 hg (vN hd1 (fun _ _=>rfl) (h1 v hv))
   refine uM (fun σ hσ=> ?_) h2
   obtain⟨h3,h4,h5⟩:=hσ
   unfold DK at h3
   have h6:σ.s t= .d (.bool true):=by rw[h5 t hd3];exact hg
   show AO P (.r d _) σ _
   obtain⟨sσ,hh⟩:=σ
   simp only at h3 h4 h5 h6;subst h4
   simp only[AO,rd,ev,h6,h3]
   exact⟨trivial,fin _ v h5 hm⟩
 |false=>
  simp only[ov,Mg,L8] at hm
  refine Ac (want:=true) rfl hd1 hd2 hd3 hg (fun j hj=>by simp[rh] at hj) (fun s' ha=> ?_)
  show AO P (.r d _) _ _
  have h6:s' t= .d (.bool false):=by rw[ha t hd3];exact hg
  simp only[AO,rd,ev,h6]
  exact⟨trivial,fin _ false ha hm⟩
theorem np {R:Type} {r:R} {t u d:Nat} {ds:List Nat} {l:List SO} {b:Bool} {m1:Option Bool} {k:Bool->Option R} (hm:(BE b m1).bind k=some r) (hg:s t= .d (.bool b)) (hd:(rQ ds l&&JO [] l&& !rh ds t)=true)
  (h1:∀ v,m1=some v->ba P (DK u v) l ⟨s,h⟩) (hk:∀ v g,k v=some r->ba P K sos ⟨ay (EM ds g s) d (.d (.bool v)),h⟩):
  ba P K (aI ds t false l (.r d (.pick (.t t) (.c (.d (.bool true))) (.t u))::sos)) ⟨s,h⟩:=by
 unfold aI
 simp only[L9,M2] at hd
 obtain⟨⟨hd1,hd2⟩,hd3⟩:=hd
 rw[qu]
 have fin:∀ (s':Nat->SV) (v:Bool),(∀ j,rh ds j=false->s' j=s j)->k v=some r->ba P K sos ⟨ay s' d (.d (.bool v)),h⟩:=by
  intro s' v ha hv
  have:=hk v s' hv
  have e:EM ds s' s=s':=by
   funext j;simp only[EM];split
   ·rfl
   ·rename_i hj;exact(ha j (by simpa using hj)).symm
  rw[e] at this;exact this
 cases b with
 |false=>
  simp only[BE,Mg] at hm
  cases hv:m1 with
  |none=>rw[hv] at hm;cases hm
  |some v=>
   rw[hv] at hm
   have h2:=Ab (t:=t) (want:=false) hd1 hd3 hg (vN hd1 (fun _ _=>rfl) (h1 v hv))
   refine uM (fun σ hσ=> ?_) h2
   obtain⟨h3,h4,h5⟩:=hσ
   unfold DK at h3
   have h6:σ.s t= .d (.bool false):=by rw[h5 t hd3];exact hg
   show AO P (.r d _) σ _
   obtain⟨sσ,hh⟩:=σ
   simp only at h3 h4 h5 h6;subst h4
   simp only[AO,rd,ev,h6,h3]
   exact⟨trivial,fin _ v h5 hm⟩
 |true=>
  simp only[BE,Mf,L8] at hm
  refine Ac (want:=false) rfl hd1 hd2 hd3 hg (fun j hj=>by simp[rh] at hj) (fun s' ha=> ?_)
  show AO P (.r d _) _ _
  have h6:s' t= .d (.bool true):=by rw[ha t hd3];exact hg
  simp only[AO,rd,ev,h6]
  exact⟨trivial,fin _ true ha hm⟩
end
