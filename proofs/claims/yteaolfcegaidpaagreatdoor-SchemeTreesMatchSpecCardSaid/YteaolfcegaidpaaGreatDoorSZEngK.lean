/-
  My text.
-/
import Derived.Test.YteaolfcegaidpaaGreatDoorSZEngQ
namespace Go.Proofs.YteaolfcegaidpaaGreatDoor
set_option linter.unusedSimpArgs false
set_option linter.unusedVariables false
open Go.RowKit
variable {F:Nat->SV} {K:St->Prop} {O:List Nat} {Q:Exit->Act->World->Prop} {b:List SV} {d:Nat} {h:Nat->Ch} {i j:Nat} {m:Array Bool} {ops:Array Oper} {s s0:Nat->SV} {sos:List SO} {xs:List SX}
def tz:wh->List SX
 | .mv x=>[x]
 | .pick c a b=>[c,a,b]
 | .boxI x=>[x]
 | .ld1 x=>[x]
 | .ldA _ x=>[x]
 | .fld _ x=>[x]
 | .prt1 _ x=>[x]
 | .prtA _ _ x=>[x]
 | .idx _ x i=>[x,i]
 | .sidx x i=>[x,i]
 | .vidx _ x i=>[x,i]
 | .vidxA _ _ x i=>[x,i]
 | .bin _ x y=>[x,y]
 | .binB _ x y=>[x,y]
 | .binI _ x y=>[x,y]
 | .binP _ x y=>[x,y]
 | .not x=>[x]
 | .neg x=>[x]
 | .cvi _ x=>[x]
 | .ext x _=>[x]
 | .len x=>[x]
 | .lenT x=>[x]
 | .lenM x=>[x]
 | .mins x xs=>x::xs
 | .maxs x xs=>x::xs
 | .mkfn _ xs=>xs
 | .build _ ps=>ps.map (·.2.2)
 | .bslice _ xs=>xs
 | .slc _ x lo hi=>x::(lo.toList++hi.toList)
 | .sslc x lo hi=>x::(lo.toList++hi.toList)
 | .look _ _ _ m k=>[m,k]
 | .eqs _ _ x y=>[x,y]
 | .nilc x=>[x]
 | .gd _ _ _=>[]
 | .aidx _ _ x i=>[x,i]
 | .slcP _ x i=>[x,i]
 | .slc3 _ x lo hi mx=>x::hi::mx::lo.toList
 | .cvis x=>[x]
 | .cvbs x=>[x]
 | .cvsb x=>[x]
 | .cl t ts=> .t t::ts.map .t
theorem Do (h:∀ x∈xs,ev s x=ev F x):xs.map (ev s)=xs.map (ev F):=T3 h
theorem uI {x:Option SX} (h:∀ y∈x.toList,ev s y=ev F y):Hf s x=Hf F x:=by
 cases x with
 |none=>rfl
 |some y=>simp only[Hf,h y oS]
theorem Dp {op:wh} (hx:∀ x∈tz op,ev s x=ev F x):rd h s op=rd h F op:=by
 cases op with
 |cl t ts=>
  have h1:s t=F t:=hx (.t t) (by simp[tz])
  have h2:∀ l:List Nat,(∀ n∈l,s n=F n)->nQ s l=nQ F l:=fun l=>by
   induction l with
   |nil=>intro _;rfl
   |cons n l ih=>intro h;simp only[nQ,h n oS,ih fun m Z=>h m (by simp[Z])]
  simp only[rd,h1,h2 ts fun n hn=>hx (.t n) (by simp[tz,hn])]
 |mins x xs=>simp only[rd,hx x (by simp[tz]),Do (xs:=xs) fun y hy=>hx y (by simp[tz,hy])]
 |maxs x xs=>simp only[rd,hx x (by simp[tz]),Do (xs:=xs) fun y hy=>hx y (by simp[tz,hy])]
 |mkfn f xs=>simp only[rd,Do (xs:=xs) fun y hy=>hx y (by simpa[tz] using hy)]
 |bslice sz xs=>simp only[rd,Do (xs:=xs) fun y hy=>hx y (by simpa[tz] using hy)]
 |build zs ps=>
  have:(ps.map fun p=>(p.1,p.2.1,ev s p.2.2))=ps.map fun p=>(p.1,p.2.1,ev F p.2.2):=T3 fun p hp=>by
   rw[hx p.2.2 (by simp only[tz,Tu];exact⟨p,hp,rfl⟩)]
  simp only[rd,this]
 |slc sz x lo hi=>simp only[rd,hx x (by simp[tz]),uI (x:=lo) fun y hy=>hx y (by simp[tz];simp at hy;simp[hy]),uI (x:=hi) fun y hy=>hx y (by simp[tz];simp at hy;simp[hy])]
 |sslc x lo hi=>simp only[rd,hx x (by simp[tz]),uI (x:=lo) fun y hy=>hx y (by simp[tz];simp at hy;simp[hy]),uI (x:=hi) fun y hy=>hx y (by simp[tz];simp at hy;simp[hy])]
 |pick c b d=>simp only[tz,S9,TQ,or_false,forall_eq_or_imp,forall_eq] at hx;obtain⟨h1,h2,E⟩:=hx;simp only[rd,h1,h2,E]
 |idx sz x i=>simp only[tz,S9,TQ,or_false,forall_eq_or_imp,forall_eq] at hx;obtain⟨h1,h2⟩:=hx;simp only[rd,h1,h2]
 |aidx sz n x i=>simp only[tz,S9,TQ,or_false,forall_eq_or_imp,forall_eq] at hx;obtain⟨h1,h2⟩:=hx;simp only[rd,h1,h2]
 |slcP n x i=>simp only[tz,S9,TQ,or_false,forall_eq_or_imp,forall_eq] at hx;obtain⟨h1,h2⟩:=hx;simp only[rd,h1,h2]
 |slc3 sz x lo hi mx=>simp only[rd,hx x (by simp[tz]),hx hi (by simp[tz]),hx mx (by simp[tz]),uI (x:=lo) fun y hy=>hx y (by simp[tz];simp at hy;simp[hy])]
 |vidx n x i=>simp only[tz,S9,TQ,or_false,forall_eq_or_imp,forall_eq] at hx;obtain⟨h1,h2⟩:=hx;simp only[rd,h1,h2]
 |vidxA n w x i=>simp only[tz,S9,TQ,or_false,forall_eq_or_imp,forall_eq] at hx;obtain⟨h1,h2⟩:=hx;simp only[rd,h1,h2]
 |sidx x i=>simp only[tz,S9,TQ,or_false,forall_eq_or_imp,forall_eq] at hx;obtain⟨h1,h2⟩:=hx;simp only[rd,h1,h2]
 |bin o x i=>simp only[tz,S9,TQ,or_false,forall_eq_or_imp,forall_eq] at hx;obtain⟨h1,h2⟩:=hx;simp only[rd,h1,h2]
 |binB o x i=>simp only[tz,S9,TQ,or_false,forall_eq_or_imp,forall_eq] at hx;obtain⟨h1,h2⟩:=hx;simp only[rd,h1,h2]
 |eqs o kks x i=>simp only[tz,S9,TQ,or_false,forall_eq_or_imp,forall_eq] at hx;obtain⟨h1,h2⟩:=hx;simp only[rd,h1,h2]
 |look kk z ok x i=>simp only[tz,S9,TQ,or_false,forall_eq_or_imp,forall_eq] at hx;obtain⟨h1,h2⟩:=hx;simp only[rd,h1,h2]
 |binI o x i=>simp only[tz,S9,TQ,or_false,forall_eq_or_imp,forall_eq] at hx;obtain⟨h1,h2⟩:=hx;simp only[rd,h1,h2]
 |binP o x i=>simp only[tz,S9,TQ,or_false,forall_eq_or_imp,forall_eq] at hx;obtain⟨h1,h2⟩:=hx;simp only[rd,h1,h2]
 |gd _ _ _=>rfl
 |_=>simp only[tz,S9,TQ,or_false,forall_eq] at hx;simp only[rd,hx]
def Mh:SO->List SX
 | .r _ op=>tz op
 | .c _ f args=>f::args
 | .w _ _=>[]
 | .o _ _=>[]
 | .p _ _ _=>[]
 | .x _ _ _=>[]
 | .q _ _ _ _=>[]
 | .g t _ _ o=> .t t::Mh o
def JK:List SX->List Nat:=List.filterMap fun| .t n=>some n|_=>none
theorem I0 (h:∀ t∈JK xs,s t=F t):∀ x∈xs,ev s x=ev F x:=by
 intro x hx
 cases x with
 |t n=>exact h n (List.mem_filterMap.2 ⟨.t n,hx,rfl⟩)
 |c v=>rfl
 |f i=>rfl
def YS (P:Program) (h:Nat->Ch):SO->(Nat->SV)->SV->Prop
 | .r _ op,s,v=>∃ p,rd h s op=some (p,v)/\p
 | .c _ f args,s,v=>match ev s f,SV.lends h (args.map (ev s)) with
  | .d (.fn D caps),some as=>∃ C,aa P D (as++caps) C/\((SV.toDVs (args.map (ev s))).isSome=true\/C.flat=true)/\v= .d C
  |_,_=>False
 | .w _ _,_,_=>False
 | .o _ _,_,_=>False
 | .p _ _ _,_,_=>False
 | .x _ _ _,_,_=>False
 | .q _ _ _ _,_,_=>False
 | .g t want _ o,s,v=>(∃ b,s t= .d (.bool b)/\((b=want/\YS P h o s v)\/(b= !want/\v= .d (.tup []))))\/(s t= .d (.tup [])/\v= .d (.tup []))
theorem Dq {P:Program} {h:Nat->Ch} {s F:Nat->SV} {v:SV}:∀ {so:SO},(∀ x∈Mh so,ev s x=ev F x)->YS P h so s v->YS P h so F v
 | .r _ op,hx,hy=>by
  simp only[YS] at *
  rw[<-Dp (h:=h) (s:=s) (F:=F) hx];exact hy
 | .c _ f args,hx,hy=>by
  simp only[YS] at *
  rw[<-hx f (by simp[Mh]),<-Do (xs:=args) fun y hy=>hx y (by simp[Mh,hy])];exact hy
 | .w _ _,hx,hy=>hy.elim
 | .o _ _,hx,hy=>hy.elim
 | .p _ _ _,hx,hy=>hy.elim
 | .x _ _ _,hx,hy=>hy.elim
 | .q _ _ _ _,hx,hy=>hy.elim
 | .g t want dst o,hx,hy=>by
  simp only[YS] at *
  have Y:s t=F t:=hx (.t t) (by simp[Mh])
  rcases hy with⟨b,hb,hc⟩|⟨hu,hv⟩
  case inr=>exact .inr ⟨by rw[<-Y];exact hu,hv⟩
  refine .inl ⟨b,by rw[<-Y];exact hb,hc.imp (fun⟨h1,h2⟩=>⟨h1,Dq (fun x Q=>hx x (by simp[Mh,Q])) h2⟩) id⟩
def kL:SO->Option Nat
 | .r d _=>some d
 | .c d _ _=>some d
 | .w _ _=>none
 | .o _ _=>none
 | .p _ _ _=>none
 | .x _ _ _=>none
 | .q _ _ _ _=>none
 | .g _ _ d o=>match kL o with|some e=>if d=some e then some e else none|none=>none
theorem HB {P:Program} {K:St->Prop} {σ:St}:∀ {so:SO} {d:Nat},kL so=some d->AO P so σ K->∃ v,YS P σ.h so σ.s v/\K ⟨aD σ.s d v,σ.h⟩
 | .r e op,d,hd,h=>by
  simp only[kL,SN] at hd;subst hd
  simp only[AO] at h
  split at h
  ·rename_i p v A;exact⟨v,⟨p,A,h.1⟩,h.2⟩
  ·exact h.elim
 | .c e f args,d,hd,h=>by
  simp only[kL,SN] at hd;subst hd
  simp only[AO] at h
  split at h
  ·rename_i D caps as h1 h2
   obtain⟨C,hs,hf,hk⟩:=h
   refine⟨.d C, ?_,hk⟩
   simp only[YS,h1,h2]
   exact⟨C,hs,hf,rfl⟩
  ·exact h.elim
 | .w _ _,d,hd,h=>by simp[kL] at hd
 | .o _ _,d,hd,h=>by simp[kL] at hd
 | .p _ _ _,d,hd,h=>by simp[kL] at hd
 | .x _ _ _,d,hd,h=>by simp[kL] at hd
 | .q _ _ _ _,d,hd,h=>by simp[kL] at hd
 | .g t want e o,d,hd,h=>by
  simp only[kL] at hd
  split at hd
  ·rename_i W y
   split at hd
   ·rename_i r7
    simp only[SN] at hd
    subst hd r7
    simp only[AO] at h
    split at h
    ·rename_i b hb
     by_cases G:b=want
     ·obtain⟨v,hv,hk⟩:=HB y (h.1 G)
      exact⟨v,.inl ⟨b,hb,.inl ⟨G,hv⟩⟩,hk⟩
     ·have a:b= !want:=by cases b<;>cases want<;>simp_all
      exact⟨.d (.tup []),.inl ⟨b,hb,.inr ⟨a,rfl⟩⟩,h.2 a⟩
    ·rename_i hu
     exact⟨.d (.tup []),.inr ⟨hu,rfl⟩,h⟩
    ·exact h.elim
   ·cases hd
  ·cases hd
theorem HC {P:Program} {h:Nat->Ch} {s:Nat->SV} {v:SV}:∀ {so:SO} {d:Nat},kL so=some d->YS P h so s v->AO P so ⟨s,h⟩ (· =⟨aD s d v,h⟩)
 | .r e op,d,hd,hy=>by
  simp only[kL,SN] at hd;subst hd
  simp only[YS] at hy
  obtain⟨p,A,hp⟩:=hy
  simp only[AO,A]
  exact⟨hp,trivial⟩
 | .c e f args,d,hd,hy=>by
  simp only[kL,SN] at hd;subst hd
  simp only[YS] at hy
  simp only[AO]
  split at hy
  ·rename_i D caps as h1 h2
   obtain⟨C,hs,hf,rfl⟩:=hy
   (try simp only[h1,h2])
   exact⟨C,hs,hf,rfl⟩
  ·exact hy.elim
 | .w _ _,d,hd,hy=>by simp[kL] at hd
 | .o _ _,d,hd,hy=>by simp[kL] at hd
 | .p _ _ _,d,hd,hy=>by simp[kL] at hd
 | .x _ _ _,d,hd,hy=>by simp[kL] at hd
 | .q _ _ _ _,d,hd,hy=>by simp[kL] at hd
 | .g t want e o,d,hd,hy=>by
  simp only[kL] at hd
  split at hd
  ·rename_i W y
   split at hd
   ·rename_i r7
    simp only[SN] at hd
    subst hd r7
    simp only[YS] at hy
    rcases hy with⟨b,hb,hc⟩|⟨hu,rfl⟩
    case inr=>simp only[AO,hu,putS]
    simp only[AO,hb]
    refine⟨fun G=> ?_,fun G=> ?_⟩
    ·rcases hc with⟨_,hv⟩|⟨h1,_⟩
     ·exact HC y hv
     ·subst G;cases b<;>simp at h1
    ·rcases hc with⟨h1,_⟩|⟨_,rfl⟩
     ·subst h1;cases b<;>simp at G
     ·simp[putS]
   ·cases hd
  ·cases hd
def HD:List SO->Option (List Nat)
 |[]=>some []
 |o::l=>match kL o,HD l with
  |some d,some O=>some (d::O)
  |_,_=>none
def Cl (O:List Nat) (b:List SV) (s0:Nat->SV) (S:Nat->Bool):Nat->SV:=fun t=>
 match O.idxOf? t with
 |some i=>if S i then b.getD i (.d .any) else s0 t
 |none=>s0 t
theorem KV (hn:O.Nodup) (h:O[i]?=some d):O.idxOf? d=some i:=by
 induction O generalizing i with
 |nil=>simp at h
 |cons e O ih=>
  simp only[UQ] at hn
  cases i with
  |zero=>simp at h;subst h;simp[List.idxOf?_cons]
  |succ i=>
   simp at h
   have A:e≠d:=fun J=>hn.1 (J▸ST h)
   rw[List.idxOf?_cons]
   simp[A,ih hn.2 h]
theorem Fr (h:O.idxOf? d=some i):O[i]?=some d:=by
 induction O generalizing i with
 |nil=>simp at h
 |cons e O ih=>
  rw[List.idxOf?_cons] at h
  split at h
  ·rename_i J;simp at h;subst h;simp at J;simp[J]
  ·simp only[Option.map_eq_some_iff] at h
   obtain⟨j,hj,rfl⟩:=h
   simpa using ih hj
theorem JL {S:Nat->Bool} {v:SV} (hn:O.Nodup) (hd:O[j]?=some d) (hv:b[j]?=some v):
  aD (Cl O b s0 S) d v=Cl O b s0 (fun i=>S i||i==j):=by
 funext t
 by_cases Y:t=d
 ·subst Y
  simp[au,Cl,KV hn hd,List.getD,hv]
 ·rw[bv _ _ _ _ Y]
  unfold Cl
  cases hi:O.idxOf? t with
  |none=>rfl
  |some i=>
   have A:i≠j:=fun e=>by
    subst e
    have:=Fr hi
    rw[hd] at this;simp at this;exact Y this.symm
   simp[A]
theorem Dr:∀ {sos:List SO} {O:List Nat},HD sos=some O->O.length=sos.length/\∀ (j:Nat) (so:SO),sos[j]?=some so->∃ d,O[j]?=some d/\kL so=some d
 |[],O,h=>by simp only[HD,SN] at h;subst h;simp
 |o::l,O,h=>by
  simp only[HD] at h
  split at h
  ·rename_i d i h1 h2
   simp only[SN] at h;subst h
   obtain⟨E,h4⟩:=Dr h2
   refine⟨by simp[E],fun j so hj=> ?_⟩
   cases j with
   |zero=>simp at hj;subst hj;exact⟨d,by simp,h1⟩
   |succ j=>simpa using h4 j so (by simpa using hj)
  ·cases h
theorem PG {P:Program} {K:St->Prop} {h:Nat->Ch} {s0:Nat->SV} {O:List Nat} (hn:O.Nodup):∀ (sos:List SO) (k:Nat) (b:List SV),b.length=k->(∀ (j:Nat) (so:SO),sos[j]?=some so->∃ d,O[k+j]?=some d/\kL so=some d)->k+sos.length=O.length->
  a6 P K sos ⟨Cl O b s0 (fun i=>decide (i<k)),h⟩->
  ∃ p:List SV,p.length=sos.length/\(∀ (j:Nat) (so:SO) (v:SV),sos[j]?=some so->p[j]?=some v->YS P h so (Cl O (b++p) s0 (fun i=>decide (i<k+j))) v)/\K ⟨Cl O (b++p) s0 (fun i=>decide (i<O.length)),h⟩
 |[],k,b,hk,hd,hl,ha=>by
  refine⟨[],rfl,by simp, ?_⟩
  simp only[TN,UC] at hl
  simp only[Tg]
  rw[<-hl];exact ha
 |so::sos,k,b,hk,hd,hl,ha=>by
  simp only[a6] at ha
  obtain⟨d,a,G⟩:=hd 0 so oS
  simp only[UC] at a
  obtain⟨v,hv,e⟩:=HB G ha
  have pre:∀ (l:List SV) (n:Nat),n<=k->Cl O (b++l) s0 (fun i=>decide (i<n))=Cl O b s0 (fun i=>decide (i<n)):=fun l n C=>by
   funext t
   unfold Cl
   cases O.idxOf? t with
   |none=>rfl
   |some i=>
    by_cases hi:i<n
    ·simp[hi,List.getD,TZ (show i<b.length by omega)]
    ·simp[hi]
  have step:aD (Cl O b s0 (fun i=>decide (i<k))) d v=Cl O (b++[v]) s0 (fun i=>decide (i<k+1)):=by
   rw[<-pre [v] k (S0 _),JL hn a (v:=v) (by rw[TK oM];simp[hk])]
   congr 1
   funext i
   by_cases h1:i<k
   ·simp[h1,show i<k+1 by omega]
   ·by_cases h2:i=k
    ·subst h2;simp
    ·simp[h1,h2,show¬ i<k+1 by omega]
  simp only[step] at e
  obtain⟨p,U,h0,R⟩:=PG hn sos (k+1) (b++[v]) (by simp[hk]) (fun j I hj=>by
   have:=hd (j+1) I (by simpa using hj)
   rw[show k+1+j=k+(j+1) by omega];exact this) (by simp only[S6] at hl;omega) e
  refine⟨v::p,by simp[U],fun j I v' hj r7=> ?_,by simpa using R⟩
  cases j with
  |zero=>
   simp at hj r7
   subst hj r7
   rw[UC,pre _ k (S0 _)]
   exact hv
  |succ j=>
   have:=h0 j I v' (by simpa using hj) (by simpa using r7)
   rw[show k+(j+1)=k+1+j by omega]
   simpa using this
def back (all:Array Oper) (j:Nat):Nat->List Nat->Bool
 |0,S=>S.contains j
 |k+1,S=>back all j k (if S.contains (k+1) then match all[k+1]? with|some o=>S++((o.after.toList.filter (Region.binds .any)).map (·.on))|none=>S else S)
theorem mK {all:Array Oper} {j:Nat} {m:Array Bool} (hc:∀ (i:Nat) o,m.getD i false=true->all[i]?=some o->∀ e∈o.after,Region.binds .any e=true->m.getD e.on false=true):
  ∀ (k:Nat) (S:List Nat),(∀ x∈S,m.getD x false=true)->back all j k S=true->m.getD j false=true
 |0,S,hS,hb=>hS j (by simpa[back] using hb)
 |k+1,S,hS,hb=>by
  simp only[back] at hb
  refine mK hc k _ ?_ hb
  intro x hx
  split at hx
  ·rename_i hk
   split at hx
   ·rename_i o ho
    rcases Ta.1 hx with hx|hx
    ·exact hS x hx
    ·obtain⟨e,J,rfl⟩:=Tu.1 hx
     obtain⟨J,h6⟩:=UE.1 J
     exact hc (k+1) o (hS _ (by simpa using hk)) ho e (by simpa using J) h6
   ·exact hS x hx
  ·exact hS x hx
def zY (all:Array Oper) (O:List Nat):Nat->List Oper->List SO->Bool
 |_,[],[]=>true
 |j,o::ops,so::sos=>o.after.all (fun e=> !Region.binds .any e||decide (e.on<j))&&
   (JK (Mh so)).all (fun t=>match O.idxOf? t with|some i=>(decide (i<j)&&o.after.any (fun e=>Region.binds .any e&&e.on==i))||(decide (j<=i)&&(i==j||back all j i [i]))|none=>true)&&zY all O (j+1) ops sos
 |_,_,_=>false
theorem A6 {all:Array Oper} {O:List Nat}:∀ {ops:List Oper} {sos:List SO} {k:Nat},zY all O k ops sos=true->∀ (j:Nat) (o:Oper) (so:SO),ops[j]?=some o->sos[j]?=some so->
  (∀ e∈o.after,Region.binds .any e=true->e.on<k+j)/\∀ t∈JK (Mh so),∀ i,O.idxOf? t=some i->(i<k+j/\∃ e∈o.after,Region.binds .any e=true/\e.on=i)\/(k+j<=i/\(i=k+j\/back all (k+j) i [i]=true))
 |[],[],k,h,j,o,so,ho,hs=>by simp at ho
 |o'::ops,I::sos,k,h,j,o,so,ho,hs=>by
  simp only[zY,SR] at h
  obtain⟨⟨h1,h2⟩,E⟩:=h
  cases j with
  |zero=>
   simp at ho hs
   subst ho hs
   refine⟨fun e J hb=> ?_,fun t Y i hi=> ?_⟩
   ·have:=Ut.1 h1 e J
    simpa[hb] using this
   ·have:=Tp.1 h2 t Y
    simp only[hi,Tn,SR,SU,S1] at this
    rcases this with this|this
    ·refine .inl ⟨this.1, ?_⟩
     obtain⟨e,J,hb⟩:=Array.any_eq_true'.1 this.2
     simp only[SR,S1] at hb
     exact⟨e,J,hb.1,hb.2⟩
    ·exact .inr this
  |succ j=>
   have:=A6 E j o so (by simpa using ho) (by simpa using hs)
   rw[show k+(j+1)=k+1+j by omega]
   exact this
 |[],_::_,k,h,_,_,_,_,_=>by simp[zY] at h
 |_::_,[],k,h,_,_,_,_,_=>by simp[zY] at h
theorem nU {P:Program} {N:Nat} {ops:Array Oper}:∀ {l:List Oper} {sos:List SO},bh P N ops l sos=true->l.length=sos.length/\∀ (j:Nat) (o:Oper) (so:SO),l[j]?=some o->sos[j]?=some so->l6 P N ops o so=true
 |[],[],_=>by simp
 |o'::l,I::sos,h=>by
  simp only[bh,SR] at h
  obtain⟨h1,h2⟩:=nU h.2
  refine⟨by simp[h1],fun j o so ho hs=> ?_⟩
  cases j with
  |zero=>simp at ho hs;subst ho hs;exact h.1
  |succ j=>exact h2 j o so (by simpa using ho) (by simpa using hs)
 |[],_::_,h=>by simp[bh] at h
 |_::_,[],h=>by simp[bh] at h
def Fs (n:Nat) (m:Array Bool):List Nat:=(List.range n).filter fun i=> !m.getD i true
theorem JM {n:Nat} (hi:i<n) (hs:m.size=n) (hl:m.getD i true=false):(Fs n (m.setIfInBounds i true)).length+1=(Fs n m).length:=by
 have p:i∈Fs n m:=by simp only[Fs,UE,T7,hi,hl,Tw,and_self]
 have y:(Fs n m).Nodup:=List.Pairwise.filter _ List.nodup_range
 have B:Fs n (m.setIfInBounds i true)=(Fs n m).erase i:=by
  rw[y.erase_eq_filter]
  unfold Fs
  rw[List.filter_filter]
  apply List.filter_congr
  intro j hj
  by_cases f:i=j
  ·subst f
   simp[hs,hi]
  ·rw[getD_set_ne true f]
   simp[Ne.symm f]
 rw[B,List.length_erase_of_mem p]
 have:=List.length_pos_of_mem p
 omega
theorem Ds {o:Oper} (hc:∀ (i:Nat) o,m.getD i false=true->ops[i]?=some o->∀ e∈o.after,Region.binds .any e=true->m.getD e.on false=true) (ho:ops[j]?=some o) (s8:∀ e∈o.after,Region.binds .any e=true->m.getD e.on false=true) (hj:j<m.size):
  ∀ (i:Nat) o,(m.setIfInBounds j true).getD i false=true->ops[i]?=some o->∀ e∈o.after,Region.binds .any e=true->(m.setIfInBounds j true).getD e.on false=true:=by
 have mono:∀ k,m.getD k false=true->(m.setIfInBounds j true).getD k false=true:=fun k hk=>by
  by_cases g:j=k
  ·subst g;simp[hj]
  ·rw[getD_set_ne false g];exact hk
 intro i o' hi ho' e J hb
 by_cases f:j=i
 ·subst f
  rw[ho] at ho';cases ho'
  exact mono _ (s8 e J hb)
 ·rw[getD_set_ne false f] at hi
  exact mono _ (hc i o' hi ho' e J hb)
section
variable {P:Program} {c:Cx}
theorem KW (hQ:∀ X W h6 a' w',cH c X W h6 a' w'->K X->Q .normal a' w') (Z:bh P c.N ops ops.toList sos=true) (r8:HD sos=some O) (hn:O.Nodup) (n:zY ops O 0 ops.toList sos=true) (v1:b.length=sos.length) (k:∀ (j:Nat) so v,sos[j]?=some so->b[j]?=some v->YS P h so (Cl O b s0 (fun i=>decide (i<j))) v) (hK:K ⟨Cl O b s0 (fun i=>decide (i<O.length)),h⟩):
  ∀ (u:Nat) (m:Array Bool) (κ:Nat->Value) (φ:Nat->List Nat) (a:Act) (w:World),m.size=ops.size->(Fs ops.size m).length=u->(∀ (i:Nat) o,m.getD i false=true->ops[i]?=some o->∀ e∈o.after,Region.binds .any e=true->m.getD e.on false=true)->cH c ⟨Cl O b s0 (fun i=>m.getD i false),h⟩ κ φ a w->
   wpAny P .any ops Q u m a w:=by
 obtain⟨u2,u0⟩:=nU Z
 obtain⟨w1,f⟩:=Dr r8
 have h8:O.length=ops.size:=by simp at u2;omega
 have B:∀ (m:Array Bool) (κ:Nat->Value) (φ:Nat->List Nat) (a:Act) (w:World),m.size=ops.size->cH c ⟨Cl O b s0 (fun i=>m.getD i false),h⟩ κ φ a w->Region.ready .any ops m=[]->Q .normal a w:=by
  intro m κ φ a w s3 hr r
  have all:∀ j,j<ops.size->m.getD j false=true:=by
   intro j
   induction j using Nat.strongRecOn with
   |_ j ih=>
    intro hj
    by_cases hl:m.getD j true=false
    ·exfalso
     have ho:ops[j]?=some ops[j]:=Ug hj
     have g:∃ so,sos[j]?=some so:=⟨_,S3 (by simp at u2;omega)⟩
     obtain⟨so,g⟩:=g
     have hx:=A6 n j ops[j] so oS g
     have:j∈Region.ready .any ops m:=mem_ready.2 ⟨hl,ops[j],ho,fun e J hb=>ih e.on (by have:=hx.1 e J hb;omega) (by have:=hx.1 e J hb;omega)⟩
     rw[r] at this;simp at this
    ·have F:j<m.size:=by omega
     simp[F] at hl⊢
     exact hl
  refine hQ _ _ _ _ _ hr ?_
  have:Cl O b s0 (fun i=>m.getD i false)=Cl O b s0 (fun i=>decide (i<O.length)):=by
   funext t
   unfold Cl
   cases hi:O.idxOf? t with
   |none=>rfl
   |some i=>
    have h9:i<O.length:=(SY.1 (Fr hi)).1
    have h1:=all i oM
    simp only[h1,h9,Ue]
  rw[this];exact hK
 intro u
 induction u with
 |zero=>
  intro m κ φ a w s3 hu _ hr
  have r:Region.ready .any ops m=[]:=by
   cases A:Region.ready .any ops m with
   |nil=>rfl
   |cons i l=>
    exfalso
    have hi:i∈Region.ready .any ops m:=by rw[A];simp
    obtain⟨h0,o,ho,_⟩:=mem_ready.1 hi
    have:i∈Fs ops.size m:=by simp only[Fs,UE,T7,h0,Tw,and_true];exact(Ty.1 ho).1
    rw[Te.1 hu] at this;simp at this
  exact⟨r,B m κ φ a w s3 hr r⟩
 |succ u ih=>
  intro m κ φ a w s3 hu h7 hr
  refine⟨B m κ φ a w s3 hr,fun j hj=> ?_⟩
  obtain⟨h0,o,ho,s8⟩:=mem_ready.1 hj
  have v2:j<ops.size:=(Ty.1 ho).1
  have g:∃ so,sos[j]?=some so:=⟨_,S3 (by simp at u2;omega)⟩
  obtain⟨so,g⟩:=g
  have hv:∃ v,b[j]?=some v:=⟨_,S3 (by have:=(SY.1 g).1;omega)⟩
  obtain⟨v,hv⟩:=hv
  obtain⟨d,hd,G⟩:=f j so g
  have hx:=A6 n j o so (by simpa using ho) g
  have hy:YS P h so (Cl O b s0 (fun i=>m.getD i false)) v:=by
   refine Dq (I0 fun t Y=> ?_) (k j so v g hv)
   unfold Cl
   cases hi:O.idxOf? t with
   |none=>rfl
   |some i=>
    rcases hx.2 t Y i hi with⟨h1,e,J,hb,y⟩|⟨h1,h2⟩
    ·have h2:=s8 e J hb
     rw[y] at h2
     have E:i<j:=by omega
     simp only[h2,E,Ue]
    ·have s1:m.getD j false=false:=by
      simp only[TD] at h0⊢
      have:j<m.size:=by omega
      simpa[this] using h0
     have E:¬ i<j:=by omega
     have h4:m.getD i false=false:=by
      rcases h2 with rfl|h2
      ·simpa using s1
      ·rw[TJ] at h2
       cases w5:m.getD i false with
       |false=>rfl
       |true=>
        have:=mK h7 i [i] (by simpa using w5) h2
        rw[s1] at this;cases this
     simp only[E,h4,Um,Tj,Tv]
  have qq:=HC G hy
  have w7:=u0 j o so (by simpa using ho) g
  unfold wpOp
  simp only[ho]
  refine ym hr w7 qq fun X W h6 a' w' r1 hk=> ?_
  subst hk
  have w5:(Fs ops.size (m.setIfInBounds j true)).length=u:=by
   have:=JM v2 s3 h0
   omega
  refine ih (m.setIfInBounds j true) W h6 a' w' (by simp[s3]) w5 ?_ ?_
  ·exact Ds h7 ho s8 oM
  have:Cl O b s0 (fun i=>(m.setIfInBounds j true).getD i false)=aD (Cl O b s0 (fun i=>m.getD i false)) d v:=by
   rw[JL hn hd hv]
   congr 1
   funext i
   by_cases V:j=i
   ·subst V;simp[s3,v2]
   ·rw[getD_set_ne false V];simp[Ne.symm V]
  rw[this];exact r1
theorem HE (D:P.follows .mixedOrders=true) {id:Nat} {σ:St} {κ:Nat->Value} {φ:Nat->List Nat} {a:Act} {w:World} (hQ:∀ X W h6 a' w',cH c X W h6 a' w'->K X->Q .normal a' w') (Z:bh P c.N ops ops.toList sos=true) (r8:HD sos=some O) (hn:O.Nodup) (n:zY ops O 0 ops.toList sos=true) (hr:cH c σ κ φ a w) (h:a6 P K sos σ):
  (Code.region id ops true).wp P Q a w:=by
 obtain⟨u2,u0⟩:=nU Z
 obtain⟨w1,f⟩:=Dr r8
 have h0:∀ b:List SV,Cl O b σ.s (fun _=>false)=σ.s:=fun b=>by
  funext t;unfold Cl;cases O.idxOf? t<;>simp
 obtain⟨b,v1,k,hK⟩:=PG (P:=P) (K:=K) (h:=σ.h) (s0:=σ.s) hn sos 0 [] rfl (fun j so hj=>by simpa using f j so hj) (by simpa using w1.symm) (by
  have:(fun i:Nat=>decide (i<0))=fun _=>false:=by funext i;simp
  rw[this,h0];exact h)
 simp only[Tb,TJ] at k hK
 refine wp_region_any D (KW (c:=c) hQ Z r8 hn n v1 k hK ops.size _ κ φ a _ oS ?_ ?_ ?_)
 ·have:Fs ops.size (Array.replicate ops.size false)=List.range ops.size:=by
   unfold Fs
   rw[U6]
   intro i hi
   simp at hi
   simp[hi]
  rw[this];simp
 ·intro i o hi
  by_cases h9:i<ops.size<;>simp[h9] at hi
 ·have:(fun i:Nat=>(Array.replicate ops.size false).getD i false)=fun _=>false:=by
   funext i
   by_cases hi:i<ops.size<;>simp[hi]
  rw[this,h0]
  exact hr.grown ((Below.refl _ _).drew)
end
