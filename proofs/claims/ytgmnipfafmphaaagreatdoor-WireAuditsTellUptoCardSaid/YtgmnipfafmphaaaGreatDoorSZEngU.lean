/-
  My text.
-/
import Derived.Test.YtgmnipfafmphaaaGreatDoorSZEngM
namespace Go.Proofs.YtgmnipfafmphaaaGreatDoor
set_option linter.unusedSimpArgs false
set_option linter.unusedVariables false
open Go.RowKit
def jA {S A:Type} (f:S->Option (S⊕A)):Nat->S->Option A
 |0,_=>none
 |n+1,s=>match f s with
  |some (.inl s')=>jA f n s'
  |some (.inr a)=>some a
  |none=>none
theorem q_ {S A:Type} {f:S->Option (S⊕A)} {a:A}:∀ {n m:Nat} {s:S},n<=m->jA f n s=some a->jA f m s=some a
 |0,_,_,_,h=>by simp[jA] at h
 |n+1,0,_,h,_=>by omega
 |n+1,m+1,s,h,hl=>by
  simp only[jA] at hl⊢
  split at hl
  ·exact q_ oM hl
  ·exact hl
  ·cases hl
open Classical in
noncomputable def bg {S A:Type} (f:S->Option (S⊕A)) (s:S):Option A:=
 if h:∃ n,(jA f n s).isSome=true then jA f (Classical.choose h) s else none
theorem rb {S A:Type} {f:S->Option (S⊕A)} {s:S} {a:A}:bg f s=some a↔∃ n,jA f n s=some a:=by
 unfold bg
 constructor
 ·intro h
  split at h
  ·exact⟨_,h⟩
  ·cases h
 ·rintro⟨n,hn⟩
  have hex:∃ n,(jA f n s).isSome=true:=⟨n,by rw[hn];rfl⟩
  rw[dif_pos hex]
  have hc:=Classical.choose_spec hex
  obtain⟨a',ha'⟩:=L2.1 hc
  rw[ha']
  have h1:=q_ (Nat.le_max_left n (Classical.choose hex)) hn
  have h2:=q_ (Nat.le_max_right n (Classical.choose hex)) ha'
  rw[h1] at h2;exact h2.symm
theorem cC {S A:Type} (f:S->Option (S⊕A)) (s:S):bg f s=match f s with
  |some (.inl s')=>bg f s'
  |some (.inr a)=>some a
  |none=>none:=by
 apply Option.ext
 intro a
 rw[rb]
 cases hf:f s with
 |none=>
  constructor
  ·rintro⟨n,hn⟩
   cases n<;>simp[jA,hf] at hn
  ·intro h;cases h
 |some o=>
  cases o with
  |inl s'=>
   simp only
   rw[rb]
   constructor
   ·rintro⟨n,hn⟩
    cases n with
    |zero=>simp[jA] at hn
    |succ n=>exact⟨n,by simpa only[jA,hf] using hn⟩
   ·rintro⟨n,hn⟩
    exact⟨n+1,by simpa only[jA,hf] using hn⟩
  |inr a'=>
   simp only
   constructor
   ·rintro⟨n,hn⟩
    cases n with
    |zero=>simp[jA] at hn
    |succ n=>simpa only[jA,hf] using hn
   ·intro hn
    exact⟨1,by simpa only[jA,hf] using hn⟩
def cO {α:Type} (l:List α) (i:Int):Option α:=if 0<=i then l[i.toNat]? else none
def fB {α:Type} (l:List α) (lo hi:Int):Option (List α):=if 0<=lo/\lo<=hi/\hi<=l.length then some ((l.take hi.toNat).drop lo.toNat) else none
def ot (b:Bool) (m:Option Bool):Option Bool:=bif b then m else some false
def Ii (b:Bool) (m:Option Bool):Option Bool:=bif b then some true else m
section
variable {P:Program} {s:Nat->SV} {h:Nat->Ch} {K K':St->Prop} {sos:List SO}
theorem p9 (hk:∀ σ,K σ->K' σ):∀ {so:SO} {σ:St},AO P so σ K->AO P so σ K'
 | .r dst op,σ,h=>by
  simp only[AO] at h⊢
  split at h
  ·exact⟨h.1,hk _ h.2⟩
  ·exact h
 | .c dst f args,σ,h=>by
  simp only[AO] at h⊢
  split at h
  ·obtain⟨res,h1,h2,h3⟩:=h;exact⟨res,h1,h2,hk _ h3⟩
  ·exact h
 | .o dst op,σ,h=>by
  obtain⟨σ1,h1,p,v,h2,h3,h4⟩:=h;exact⟨σ1,h1,p,v,h2,h3,hk _ h4⟩
 | .w dst op,σ,h=>by
  obtain⟨σ1,h1,p,v,h2,h3,h4⟩:=h;exact⟨σ1,h1,p,v,h2,h3,hk _ h4⟩
 | .p dst f args,σ,h=>by
  obtain⟨σ1,h1,a1,a2,a3,a4,a5,a6,a7,b1,b2,b3,b4,b5,b6⟩:=h;exact⟨σ1,h1,a1,a2,a3,a4,a5,a6,a7,b1,b2,b3,b4,b5,hk _ b6⟩
 | .x dst op late,σ,h=>by
  simp only[AO] at h⊢
  split at h
  ·exact⟨h.1,h.2.1,hk _ h.2.2⟩
  ·exact h
 | .q dst f args late,σ,h=>by
  obtain⟨a1,a2,a3,a4,b1,b2,b3,b4,b5,b6,b7⟩:=h;exact⟨a1,a2,a3,a4,b1,b2,b3,b4,b5,b6,hk _ b7⟩
 | .g t want dst o,σ,h=>by
  simp only[AO] at h⊢
  split at h
  ·exact⟨fun e=>p9 hk (h.1 e),fun e=>hk _ (h.2 e)⟩
  ·exact hk _ h
  ·exact h
theorem tj (hk:∀ σ,K σ->K' σ):∀ {sos:List SO} {σ:St},aA P K sos σ->aA P K' sos σ
 |[],_,h=>hk _ h
 |_::_,_,h=>p9 (fun _=>tj hk) h
theorem mh:∀ {l l':List SO} {σ:St},aA P K (l++l') σ↔aA P (aA P K l') l σ
 |[],_,_=>Iff.rfl
 |_::_,_,_=>⟨fun h=>p9 (fun _=>mh.1) h,fun h=>p9 (fun _=>mh.2) h⟩
def nf:List Nat->Nat->Bool
 |[],_=>false
 |a::l,j=>if j=a then true else nf l j
def B5 (ds:List Nat) (g s:Nat->SV):Nat->SV:=fun j=>if nf ds j=true then g j else s j
theorem Fr (ds:List Nat) (g s:Nat->SV) (j:Nat):B5 ds g s j=if nf ds j=true then g j else s j:=rfl
def nN (ds:List Nat):List SO->Bool
 |[]=>true
 |o::l=>(match gH o with|some d=>nf ds d|none=>false)&&nN ds l
theorem rc {ds:List Nat}:∀ {l:List SO} {s s':Nat->SV},nN ds l=true->(∀ j,nf ds j=false->s' j=s j)->aA P K l ⟨s',h⟩->aA P (fun σ=>K σ/\σ.h=h/\∀ j,nf ds j=false->σ.s j=s j) l ⟨s',h⟩
 |[],s,s',_,ha,hk=>⟨hk,rfl,ha⟩
 |o::l,s,s',hd,ha,hk=>by
  simp only[nN,K1] at hd
  obtain⟨h1,h2⟩:=hd
  split at h1
  ·rename_i d hd
   obtain⟨v,hy,hr⟩:=At hd hk
   refine p9 (fun σ he=> ?_) (x9 hd hy)
   subst he
   refine rc h2 (fun j hj=> ?_) hr
   have hne:j≠d:=fun e=>by subst e;rw[hj] at h1;cases h1
   simp only[ak,hne,LI];exact ha j hj
  ·cases h1
def gw (t:Nat) (want:Bool):SO->SO
 | .g t' w d o=> .g t' w d o
 |o=> .g t want (gH o) o
def IU (t:Nat) (want:Bool) (l:List SO):List SO:=l.map (gw t want)
def Ij:List Nat->List SO->Bool
 |_,[]=>true
 |seen,.g t' _ d o::l=>nf seen t'&&(match gH o with|some e=>decide (d=some e)&&Ij (e::seen) l|none=>false)
 |seen,o::l=>(match gH o with|some e=>Ij (e::seen) l|none=>false)
theorem IV {t:Nat} {w:Bool} {d:Option Nat} {o:SO} {e:Nat} (h:gH o=some e) (hd:d=some e):gH (.g t w d o)=some e:=by
 subst hd;simp[gH,h]
theorem wo {t:Nat} {want:Bool} {ds:List Nat}:∀ {l:List SO} {s:Nat->SV},nN ds l=true->nf ds t=false->s t= .d (.bool want)->aA P K l ⟨s,h⟩->aA P K (IU t want l) ⟨s,h⟩
 |[],_,_,_,_,hk=>hk
 |o::l,s,hd,ht,hs,hk=>by
  simp only[nN,K1] at hd
  obtain⟨h1,h2⟩:=hd
  split at h1
  ·rename_i d hdo
   obtain⟨v,hy,hr⟩:=At hdo hk
   have hne:t≠d:=fun e=>by subst e;rw[ht] at h1;cases h1
   have hrest:aA P K (IU t want l) ⟨ak s d v,h⟩:=wo h2 ht (by simp only[ak,hne,LI];exact hs) hr
   have hoo:AO P o ⟨s,h⟩ (aA P K (IU t want l)):=p9 (fun σ he=>by subst he;exact hrest) (x9 hdo hy)
   have:AO P (gw t want o) ⟨s,h⟩ (aA P K (IU t want l)):=by
    unfold gw
    split
    ·exact hoo
    ·show(match s t with| .d (.bool b)=>_| .d (.tup [])=>_|_=>_)
     rw[hs]
     exact⟨fun _=>hoo,fun e=>by cases want<;>simp at e⟩
   exact this
  ·cases h1
theorem wq {t:Nat} {want b:Bool} {ds:List Nat} (hb:b= !want):∀ {l:List SO} {seen:List Nat} {s:Nat->SV},nN ds l=true->Ij seen l=true->nf ds t=false->s t= .d (.bool b)->(∀ j,nf seen j=true->s j= .d (.tup []))->
  (∀ s',(∀ j,nf ds j=false->s' j=s j)->K ⟨s',h⟩)->aA P K (IU t want l) ⟨s,h⟩
 |[],_,s,_,_,_,_,_,hk=>hk s fun _ _=>rfl
 |o::l,seen,s,hd,hg,ht,hs,hsn,hk=>by
  simp only[nN,K1] at hd
  obtain⟨h1,h2⟩:=hd
  split at h1
  ·rename_i d hdo
   have hne:t≠d:=fun e=>by subst e;rw[ht] at h1;cases h1
   have step:∀ seen',Ij (d::seen') l=true->(∀ j,nf seen' j=true->s j= .d (.tup []))->aA P K (IU t want l) ⟨ak s d (.d (.tup [])),h⟩:=by
    intro seen' hg' hsn'
    refine wq hb h2 hg' ht (by simp only[ak,hne,LI];exact hs) (fun j hj=> ?_) (fun s' ha=>hk s' fun j hj=> ?_)
    ·simp only[nf] at hj
     by_cases hjd:j=d
     ·subst hjd;simp[ak]
     ·simp only[hjd,LI] at hj;simp only[ak,hjd,LI];exact hsn' j hj
    ·rw[ha j hj]
     have:j≠d:=fun e=>by subst e;rw[hj] at h1;cases h1
     simp only[ak,this,LI]
   cases o with
   |g t' w' d' o'=>
    simp only[Ij,K1] at hg
    obtain⟨g1,g2⟩:=hg
    split at g2
    ·rename_i e he
     simp only[K1,K_] at g2
     have hde:d=e:=by have:=IV (t:=t') (w:=w') he g2.1;rw[this] at hdo;exact(Mj hdo).symm
     subst hde
     show AO P (.g t' w' d' o') ⟨s,h⟩ _
     simp only[AO,hsn t' g1,g2.1,putS]
     exact step seen g2.2 hsn
    ·cases g2
   |_=>
    simp only[Ij,hdo] at hg
    show AO P (.g t want _ _) ⟨s,h⟩ _
    simp only[AO,hs,hdo,putS]
    refine⟨fun e=> ?_,fun _=>step seen hg hsn⟩
    rw[hb] at e;cases want<;>simp at e
  ·cases h1
def A1 (u:Nat) (v:Bool):St->Prop:=fun σ=>σ.s u= .d (.bool v)
def cD (_ds:List Nat) (t:Nat) (want:Bool) (l rest:List SO):List SO:=IU t want l++rest
theorem oW {R:Type} {r:R} {t u d:Nat} {ds:List Nat} {l:List SO} {b:Bool} {m1:Option Bool} {k:Bool->Option R} (hm:(ot b m1).bind k=some r) (hg:s t= .d (.bool b)) (hd:(nN ds l&&Ij [] l&& !nf ds t)=true)
  (h1:∀ v,m1=some v->aA P (A1 u v) l ⟨s,h⟩) (hk:∀ v g,k v=some r->aA P K sos ⟨ak (B5 ds g s) d (.d (.bool v)),h⟩):
  aA P K (cD ds t true l (.r d (.pick (.t t) (.t u) (.c (.d (.bool false))))::sos)) ⟨s,h⟩:=by
 unfold cD
 simp only[K1,L0] at hd
 obtain⟨⟨hd1,hd2⟩,hd3⟩:=hd
 rw[mh]
 have fin:∀ (s':Nat->SV) (v:Bool),(∀ j,nf ds j=false->s' j=s j)->k v=some r->aA P K sos ⟨ak s' d (.d (.bool v)),h⟩:=by
  intro s' v ha hv
  have:=hk v s' hv
  have e:B5 ds s' s=s':=by
   funext j;simp only[B5];split
   ·rfl
   ·rename_i hj;exact(ha j (by simpa using hj)).symm
  rw[e] at this;exact this
 cases b with
 |true=>
  simp only[ot,Ln] at hm
  cases hv:m1 with
  |none=>rw[hv] at hm;cases hm
  |some v=>
   rw[hv] at hm
   have h2:=wo (t:=t) (want:=true) hd1 hd3 hg (rc hd1 (fun _ _=>rfl) (h1 v hv))
   refine tj (fun σ hσ=> ?_) h2
   obtain⟨h3,h4,h5⟩:=hσ
   unfold A1 at h3
   have h6:σ.s t= .d (.bool true):=by rw[h5 t hd3];exact hg
   show AO P (.r d _) σ _
   obtain⟨sσ,hh⟩:=σ
   simp only at h3 h4 h5 h6;subst h4
   simp only[AO,rd,ev,h6,h3]
   exact⟨trivial,fin _ v h5 hm⟩
 |false=>
  simp only[ot,LE,K3] at hm
  refine wq (want:=true) rfl hd1 hd2 hd3 hg (fun j hj=>by simp[nf] at hj) (fun s' ha=> ?_)
  show AO P (.r d _) _ _
  have h6:s' t= .d (.bool false):=by rw[ha t hd3];exact hg
  simp only[AO,rd,ev,h6]
  exact⟨trivial,fin _ false ha hm⟩
theorem uz {R:Type} {r:R} {t u d:Nat} {ds:List Nat} {l:List SO} {b:Bool} {m1:Option Bool} {k:Bool->Option R} (hm:(Ii b m1).bind k=some r) (hg:s t= .d (.bool b)) (hd:(nN ds l&&Ij [] l&& !nf ds t)=true)
  (h1:∀ v,m1=some v->aA P (A1 u v) l ⟨s,h⟩) (hk:∀ v g,k v=some r->aA P K sos ⟨ak (B5 ds g s) d (.d (.bool v)),h⟩):
  aA P K (cD ds t false l (.r d (.pick (.t t) (.c (.d (.bool true))) (.t u))::sos)) ⟨s,h⟩:=by
 unfold cD
 simp only[K1,L0] at hd
 obtain⟨⟨hd1,hd2⟩,hd3⟩:=hd
 rw[mh]
 have fin:∀ (s':Nat->SV) (v:Bool),(∀ j,nf ds j=false->s' j=s j)->k v=some r->aA P K sos ⟨ak s' d (.d (.bool v)),h⟩:=by
  intro s' v ha hv
  have:=hk v s' hv
  have e:B5 ds s' s=s':=by
   funext j;simp only[B5];split
   ·rfl
   ·rename_i hj;exact(ha j (by simpa using hj)).symm
  rw[e] at this;exact this
 cases b with
 |false=>
  simp only[Ii,LE] at hm
  cases hv:m1 with
  |none=>rw[hv] at hm;cases hm
  |some v=>
   rw[hv] at hm
   have h2:=wo (t:=t) (want:=false) hd1 hd3 hg (rc hd1 (fun _ _=>rfl) (h1 v hv))
   refine tj (fun σ hσ=> ?_) h2
   obtain⟨h3,h4,h5⟩:=hσ
   unfold A1 at h3
   have h6:σ.s t= .d (.bool false):=by rw[h5 t hd3];exact hg
   show AO P (.r d _) σ _
   obtain⟨sσ,hh⟩:=σ
   simp only at h3 h4 h5 h6;subst h4
   simp only[AO,rd,ev,h6,h3]
   exact⟨trivial,fin _ v h5 hm⟩
 |true=>
  simp only[Ii,Ln,K3] at hm
  refine wq (want:=false) rfl hd1 hd2 hd3 hg (fun j hj=>by simp[nf] at hj) (fun s' ha=> ?_)
  show AO P (.r d _) _ _
  have h6:s' t= .d (.bool true):=by rw[ha t hd3];exact hg
  simp only[AO,rd,ev,h6]
  exact⟨trivial,fin _ true ha hm⟩
end
def Ik (P:Program) (K:St->Prop) (x1 x2:SO) (post:List SO) (σ:St):Prop:=aA P K (x1::x2::post) σ/\aA P K (x2::x1::post) σ
theorem IW {P:Program} {Q:AX->St->Prop} {π:List Nat} {pre post:List SO} {x1 x2:SO} {σ:St} (hw:aA P (Ik P (Q .normal) x1 x2 post) pre σ):AW P (.regV π pre x1 x2 post) Q σ:=fun hmix c code R hm hp κ φ a w hr=>by
 obtain⟨id,ops',rfl,hv⟩:∃ id ops',code= .region id ops' true/\BQ P c.N π ops' pre.length (pre++x1::x2::post) (pre++x2::x1::post)=true:=by
  cases code with
  |region id ops' d=>
   cases d with
   |true=>exact⟨id,ops',rfl,hm⟩
   |false=>simp[c7] at hm
  |_=>simp[c7] at hm
 unfold BQ at hv
 simp only[K1] at hv
 obtain⟨⟨⟨⟨⟨h1,h2⟩,h3⟩,h4⟩,h5⟩,h6⟩:=hv
 have hok:∀ so∈pre,Ig so=true:=fun so hso=>by
  obtain⟨j,hj,hj2⟩:=M5 hso
  obtain⟨hml,_⟩:=eB h2
  have hl:(pre++x1::x2::post)[j]?=some so:=by rw[LH hj];simp[K6 hj,hj2]
  have hlt:j<(dI ops' (pre.length+1) pre.length).size:=by have:=(K5.1 hl).1;simp at hml this;simp;omega
  have:=nc h3 j (dI ops' (pre.length+1) pre.length)[j] so (by simp[hlt]) hl
  simp only[oV,K1,LF] at this
  exact this.1.1.1.1
 obtain⟨S,s0,s1,s2⟩:=u_ pre σ hok hw
 exact zA hmix hr rfl (fun σ' κ' φ' a' w' hr' hk=>hp.1 _ _ _ _ _ hr' hk) h1 h2 h3 h4 h5 h6 ⟨S,s0,s1,s2.1,s2.2⟩
mutual
theorem tk (i j:Nat):∀ v:SV,cr i .any (cr j .any v)=cr j .any (cr i .any v)
 | .d v=>rfl
 | .nils=>rfl
 | .lit sz n cs=>by simp only[cr,lr i j cs]
 | .agg cs=>by simp only[cr,lr i j cs]
 | .tup cs=>by simp only[cr,lr i j cs]
 | .ref k off=>by
  show cr i .any (if k=j then .d .any else .ref k off)=cr j .any (if k=i then .d .any else .ref k off)
  by_cases h1:k=i
  ·by_cases h2:k=j
   ·rw[if_pos h1,if_pos h2];rfl
   ·rw[if_pos h1,if_neg h2];show(if k=i then _ else _)=_;rw[if_pos h1];rfl
  ·by_cases h2:k=j
   ·rw[if_neg h1,if_pos h2];show _=(if k=j then _ else _);rw[if_pos h2];rfl
   ·rw[if_neg h1,if_neg h2];show(if k=i then _ else _)=(if k=j then _ else _);rw[if_neg h1,if_neg h2]
 | .vec k=>by
  show cr i .any (if k=j then .d .any else .vec k)=cr j .any (if k=i then .d .any else .vec k)
  by_cases h1:k=i
  ·by_cases h2:k=j
   ·rw[if_pos h1,if_pos h2];rfl
   ·rw[if_pos h1,if_neg h2];show(if k=i then _ else _)=_;rw[if_pos h1];rfl
  ·by_cases h2:k=j
   ·rw[if_neg h1,if_pos h2];show _=(if k=j then _ else _);rw[if_pos h2];rfl
   ·rw[if_neg h1,if_neg h2];show(if k=i then _ else _)=(if k=j then _ else _);rw[if_neg h1,if_neg h2]
 | .vref k a b off=>by
  show cr i .any (if k=j then .d .any else .vref k a b off)=cr j .any (if k=i then .d .any else .vref k a b off)
  by_cases h1:k=i
  ·by_cases h2:k=j
   ·rw[if_pos h1,if_pos h2];rfl
   ·rw[if_pos h1,if_neg h2];show(if k=i then _ else _)=_;rw[if_pos h1];rfl
  ·by_cases h2:k=j
   ·rw[if_neg h1,if_pos h2];show _=(if k=j then _ else _);rw[if_pos h2];rfl
   ·rw[if_neg h1,if_neg h2];show(if k=i then _ else _)=(if k=j then _ else _);rw[if_neg h1,if_neg h2]
 | .mp k=>by
  show cr i .any (if k=j then .d .any else .mp k)=cr j .any (if k=i then .d .any else .mp k)
  by_cases h1:k=i
  ·by_cases h2:k=j
   ·rw[if_pos h1,if_pos h2];rfl
   ·rw[if_pos h1,if_neg h2];show(if k=i then _ else _)=_;rw[if_pos h1];rfl
  ·by_cases h2:k=j
   ·rw[if_neg h1,if_pos h2];show _=(if k=j then _ else _);rw[if_pos h2];rfl
   ·rw[if_neg h1,if_neg h2];show(if k=i then _ else _)=(if k=j then _ else _);rw[if_neg h1,if_neg h2]
 | .own m v=>rfl
theorem lr (i j:Nat):∀ l:List SV,b8 i .any (b8 j .any l)=b8 j .any (b8 i .any l)
 |[]=>rfl
 |c::cs=>by simp only[b8,tk i j c,lr i j cs]
end
theorem yp (i j:Nat):∀ l:List (List SV),cF i .any (cF j .any l)=cF j .any (cF i .any l)
 |[]=>rfl
 |c::cs=>by simp only[cF,lr i j c,yp i j cs]
theorem yq (i j:Nat):∀ l:List (DV×SV),j9 i .any (j9 j .any l)=j9 j .any (j9 i .any l)
 |[]=>rfl
 |(k,c)::cs=>by simp only[j9,tk i j c,yq i j cs]
theorem DG (i j:Nat):∀ c:Ch,jf i .any (jf j .any c)=jf j .any (jf i .any c)
 | .dead=>rfl
 | .box cs=>by simp only[jf,lr i j cs]
 | .vec e sz rows=>by simp only[jf,yp i j rows]
 | .map kk kv=>by simp only[jf,yq i j kv]
 | .bld _ _ _=>rfl
theorem IX {d1 d2:Nat} {A B:SV} (hne:d1≠d2) (hA:cr d1 .any A=A) (hB:cr d2 .any B=B) (s:Nat->SV):ak (ca d1 .any (ak (ca d2 .any s) d2 A)) d1 B=ak (ca d2 .any (ak (ca d1 .any s) d1 B)) d2 A:=by
 funext t
 simp only[ak,ca]
 by_cases h1:t=d1
 ·subst h1;simp[hne,hB]
 ·by_cases h2:t=d2
  ·subst h2;simp[h1,hA]
  ·simp only[h1,h2,LI,tk d1 d2]
theorem IY {d1 d2:Nat} {A B:Ch} (hne:d1≠d2) (hA:jf d1 .any A=A) (hB:jf d2 .any B=B) (h:Nat->Ch):ak (ct d1 .any (ak (ct d2 .any h) d2 A)) d1 B=ak (ct d2 .any (ak (ct d1 .any h) d1 B)) d2 A:=by
 funext t
 simp only[ak,ct]
 by_cases e1:t=d1
 ·subst e1;simp[hne,hB]
 ·by_cases e2:t=d2
  ·subst e2;simp[e1,hA]
  ·simp only[e1,e2,LI,DG d1 d2]
theorem yr {d1 d2:Nat} (hne:d1≠d2):cr d1 .any (.ref d2 0)= .ref d2 0:=by simp[cr,Ne.symm hne]
theorem IZ {P:Program} {K:St->Prop} {d1 d2:Nat} {v1 v2:SV} {k1 k2:List SV} {l1 l2:List (Nat×Nat×l_)} {post:List SO} {s:Nat->SV} {h:Nat->Ch} (hc1:v1.cells?=some k1) (hc2:v2.cells?=some k2) (hne:d1≠d2) (h11:b8 d1 .any k1=k1) (h12:b8 d2 .any k1=k1) (h21:b8 d1 .any k2=k2) (h22:b8 d2 .any k2=k2)
  (r1:p7 ⟨ak (ca d1 .any s) d1 (.ref d1 0),ak (ct d1 .any h) d1 (.box k1)⟩ l1) (r2:p7 ⟨ak (ca d2 .any s) d2 (.ref d2 0),ak (ct d2 .any h) d2 (.box k2)⟩ l2)
  (r3:p7 ⟨ak (ca d2 .any (ak (ca d1 .any s) d1 (.ref d1 0))) d2 (.ref d2 0),ak (ct d2 .any (ak (ct d1 .any h) d1 (.box k1))) d2 (.box k2)⟩ l1)
  (r4:p7 ⟨ak (ca d2 .any (ak (ca d1 .any s) d1 (.ref d1 0))) d2 (.ref d2 0),ak (ct d2 .any (ak (ct d1 .any h) d1 (.box k1))) d2 (.box k2)⟩ l2)
  (hk:aA P K post ⟨ak (ca d2 .any (ak (ca d1 .any s) d1 (.ref d1 0))) d2 (.ref d2 0),ak (ct d2 .any (ak (ct d1 .any h) d1 (.box k1))) d2 (.box k2)⟩):Ik P K (.x d1 (.boxM (.c v1)) l1) (.x d2 (.boxM (.c v2)) l2) post ⟨s,h⟩:=by
 constructor
 ·simp only[aA,AO,wr,ev,hc1,hc2,h11,h22,St.swap]
  exact⟨trivial,r1,trivial,r4,hk⟩
 ·simp only[aA,AO,wr,ev,hc1,hc2,h11,h22,St.swap]
  rw[IX hne (yr hne) (yr (Ne.symm hne)),IY hne (by simp only[jf,h21]) (by simp only[jf,h12])]
  exact⟨trivial,r2,trivial,r3,hk⟩
end Go.Proofs.YtgmnipfafmphaaaGreatDoor

