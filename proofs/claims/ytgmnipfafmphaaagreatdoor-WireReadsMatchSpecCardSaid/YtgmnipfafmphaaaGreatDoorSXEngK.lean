/-
  My text.
-/
import Derived.Test.YtgmnipfafmphaaaGreatDoorSXEngQ
namespace Go.Proofs.YtgmnipfafmphaaaGreatDoor
set_option linter.unusedVariables false
open Go.RowKit
variable {J:List Nat} {K:St->Prop} {Q:Exit->Act->World->Prop} {b:List SV} {d:Nat} {h:Nat->Ch} {i j:Nat} {ops:Array Oper} {r:Array Bool} {s s' s0:Nat->SV} {sos:List SO} {xs:List SX}
def tC:sA->List SX
 | .mv x=>[x]
 | .pick c a b=>[c,a,b]
 | .boxI x=>[x]
 | .ld1 x=>[x]
 | .ldA _ x=>[x]
 | .fld _ x=>[x]
 | .prt1 _ x=>[x]
 | .prtA _ _ x=>[x]
 | .idx _ x i=>[x,i]
 | .sidx x i=>[x,i]
 | .bin _ x y=>[x,y]
 | .binB _ x y=>[x,y]
 | .binI _ x y=>[x,y]
 | .binP _ x y=>[x,y]
 | .not x=>[x]
 | .neg x=>[x]
 | .cvi _ x=>[x]
 | .ext x _=>[x]
 | .len x=>[x]
 | .lenT x=>[x]
 | .lenM x=>[x]
 | .mins x xs=>x::xs
 | .maxs x xs=>x::xs
 | .mkfn _ xs=>xs
 | .build _ ps=>ps.map (·.2.2)
 | .bslice _ xs=>xs
 | .slc _ x lo hi=>x::(lo.toList++hi.toList)
 | .sslc x lo hi=>x::(lo.toList++hi.toList)
 | .look _ _ _ m k=>[m,k]
 | .eqs _ _ x y=>[x,y]
 | .nilc x=>[x]
 | .gd _ _ _=>[]
 | .aidx _ _ x i=>[x,i]
 | .slcP _ x i=>[x,i]
 | .slc3 _ x lo hi mx=>x::hi::mx::lo.toList
 | .cvis x=>[x]
 | .cvbs x=>[x]
 | .cvsb x=>[x]
 | .cl t ts=> .t t::ts.map .t
theorem C4 (h:∀ x∈xs,ev s x=ev s' x):xs.map (ev s)=xs.map (ev s'):=Wc h
theorem tQ {x:Option SX} (h:∀ y∈x.toList,ev s y=ev s' y):Cf s x=Cf s' x:=by
 cases x with
 |none=>rfl
 |some y=>simp only[Cf,h y oS]
theorem C5 {op:sA} (hx:∀ x∈tC op,ev s x=ev s' x):rd h s op=rd h s' op:=by
 cases op with
 |cl t ts=>
  have h1:s t=s' t:=hx (.t t) (by simp[tC])
  have h2:∀ l:List Nat,(∀ n∈l,s n=s' n)->ou s l=ou s' l:=fun l=>by
   induction l with
   |nil=>intro _;rfl
   |cons n l ih=>intro h;simp only[ou,h n oS,ih fun m Z=>h m (by simp[Z])]
  simp only[rd,h1,h2 ts fun n hn=>hx (.t n) (by simp[tC,hn])]
 |mins x xs=>simp only[rd,hx x (by simp[tC]),C4 (xs:=xs) fun y hy=>hx y (by simp[tC,hy])]
 |maxs x xs=>simp only[rd,hx x (by simp[tC]),C4 (xs:=xs) fun y hy=>hx y (by simp[tC,hy])]
 |mkfn f xs=>simp only[rd,C4 (xs:=xs) fun y hy=>hx y (by simpa[tC] using hy)]
 |bslice sz xs=>simp only[rd,C4 (xs:=xs) fun y hy=>hx y (by simpa[tC] using hy)]
 |build zs ps=>
  have:(ps.map fun p=>(p.1,p.2.1,ev s p.2.2))=ps.map fun p=>(p.1,p.2.1,ev s' p.2.2):=Wc fun p Y=>by
   rw[hx p.2.2 (by simp only[tC,VT];exact⟨p,Y,rfl⟩)]
  simp only[rd,this]
 |slc sz x lo hi=>simp only[rd,hx x (by simp[tC]),tQ (x:=lo) fun y hy=>hx y (by simp[tC];simp at hy;simp[hy]),tQ (x:=hi) fun y hy=>hx y (by simp[tC];simp at hy;simp[hy])]
 |sslc x lo hi=>simp only[rd,hx x (by simp[tC]),tQ (x:=lo) fun y hy=>hx y (by simp[tC];simp at hy;simp[hy]),tQ (x:=hi) fun y hy=>hx y (by simp[tC];simp at hy;simp[hy])]
 |pick c b d=>simp only[tC,VK,Wu,or_false,forall_eq_or_imp,forall_eq] at hx;obtain⟨h1,h2,E⟩:=hx;simp only[rd,h1,h2,E]
 |idx sz x i=>simp only[tC,VK,Wu,or_false,forall_eq_or_imp,forall_eq] at hx;obtain⟨h1,h2⟩:=hx;simp only[rd,h1,h2]
 |aidx sz n x i=>simp only[tC,VK,Wu,or_false,forall_eq_or_imp,forall_eq] at hx;obtain⟨h1,h2⟩:=hx;simp only[rd,h1,h2]
 |slcP n x i=>simp only[tC,VK,Wu,or_false,forall_eq_or_imp,forall_eq] at hx;obtain⟨h1,h2⟩:=hx;simp only[rd,h1,h2]
 |slc3 sz x lo hi mx=>simp only[rd,hx x (by simp[tC]),hx hi (by simp[tC]),hx mx (by simp[tC]),tQ (x:=lo) fun y hy=>hx y (by simp[tC];simp at hy;simp[hy])]
 |sidx x i=>simp only[tC,VK,Wu,or_false,forall_eq_or_imp,forall_eq] at hx;obtain⟨h1,h2⟩:=hx;simp only[rd,h1,h2]
 |bin o x i=>simp only[tC,VK,Wu,or_false,forall_eq_or_imp,forall_eq] at hx;obtain⟨h1,h2⟩:=hx;simp only[rd,h1,h2]
 |binB o x i=>simp only[tC,VK,Wu,or_false,forall_eq_or_imp,forall_eq] at hx;obtain⟨h1,h2⟩:=hx;simp only[rd,h1,h2]
 |eqs o kks x i=>simp only[tC,VK,Wu,or_false,forall_eq_or_imp,forall_eq] at hx;obtain⟨h1,h2⟩:=hx;simp only[rd,h1,h2]
 |look kk z ok x i=>simp only[tC,VK,Wu,or_false,forall_eq_or_imp,forall_eq] at hx;obtain⟨h1,h2⟩:=hx;simp only[rd,h1,h2]
 |binI o x i=>simp only[tC,VK,Wu,or_false,forall_eq_or_imp,forall_eq] at hx;obtain⟨h1,h2⟩:=hx;simp only[rd,h1,h2]
 |binP o x i=>simp only[tC,VK,Wu,or_false,forall_eq_or_imp,forall_eq] at hx;obtain⟨h1,h2⟩:=hx;simp only[rd,h1,h2]
 |gd _ _ _=>rfl
 |_=>simp only[tC,VK,Wu,or_false,forall_eq] at hx;simp only[rd,hx]
def Ly:SO->List SX
 | .r _ op=>tC op
 | .c _ f args=>f::args
 | .w _ _=>[]
 | .o _ _=>[]
 | .p _ _ _=>[]
 | .x _ _ _=>[]
 | .q _ _ _ _=>[]
 | .g t _ _ o=> .t t::Ly o
def Ks:List SX->List Nat:=List.filterMap fun| .t n=>some n|_=>none
theorem Jr (h:∀ t∈Ks xs,s t=s' t):∀ x∈xs,ev s x=ev s' x:=by
 intro x hx
 cases x with
 |t n=>exact h n (List.mem_filterMap.2 ⟨.t n,hx,rfl⟩)
 |c v=>rfl
 |f i=>rfl
def YS (P:Program) (h:Nat->Ch):SO->(Nat->SV)->SV->Prop
 | .r _ op,s,v=>∃ p,rd h s op=some (p,v)/\p
 | .c _ f args,s,v=>match ev s f,SV.lends h (args.map (ev s)) with
  | .d (.fn F caps),some as=>∃ res,ac P F (as++caps) res/\((SV.toDVs (args.map (ev s))).isSome=true\/res.flat=true)/\v= .d res
  |_,_=>False
 | .w _ _,_,_=>False
 | .o _ _,_,_=>False
 | .p _ _ _,_,_=>False
 | .x _ _ _,_,_=>False
 | .q _ _ _ _,_,_=>False
 | .g t want _ o,s,v=>(∃ b,s t= .d (.bool b)/\((b=want/\YS P h o s v)\/(b= !want/\v= .d (.tup []))))\/(s t= .d (.tup [])/\v= .d (.tup []))
theorem zd {P:Program} {h:Nat->Ch} {s s':Nat->SV} {v:SV}:∀ {so:SO},(∀ x∈Ly so,ev s x=ev s' x)->YS P h so s v->YS P h so s' v
 | .r _ op,hx,hy=>by
  simp only[YS] at *
  rw[<-C5 (h:=h) (s:=s) (s':=s') hx];exact hy
 | .c _ f args,hx,hy=>by
  simp only[YS] at *
  rw[<-hx f (by simp[Ly]),<-C4 (xs:=args) fun y hy=>hx y (by simp[Ly,hy])];exact hy
 | .w _ _,hx,hy=>hy.elim
 | .o _ _,hx,hy=>hy.elim
 | .p _ _ _,hx,hy=>hy.elim
 | .x _ _ _,hx,hy=>hy.elim
 | .q _ _ _ _,hx,hy=>hy.elim
 | .g t want dst o,hx,hy=>by
  simp only[YS] at *
  have ht:s t=s' t:=hx (.t t) (by simp[Ly])
  rcases hy with⟨b,hb,hc⟩|⟨hu,hv⟩
  case inr=>exact .inr ⟨by rw[<-ht];exact hu,hv⟩
  refine .inl ⟨b,by rw[<-ht];exact hb,hc.imp (fun⟨h1,h2⟩=>⟨h1,zd (fun x r3=>hx x (by simp[Ly,r3])) h2⟩) id⟩
def lW:SO->Option Nat
 | .r d _=>some d
 | .c d _ _=>some d
 | .w _ _=>none
 | .o _ _=>none
 | .p _ _ _=>none
 | .x _ _ _=>none
 | .q _ _ _ _=>none
 | .g _ _ d o=>match lW o with|some e=>if d=some e then some e else none|none=>none
theorem HR {P:Program} {K:St->Prop} {σ:St}:∀ {so:SO} {d:Nat},lW so=some d->AO P so σ K->∃ v,YS P σ.h so σ.s v/\K ⟨ap σ.s d v,σ.h⟩
 | .r e op,d,hd,h=>by
  simp only[lW,Vi] at hd;subst hd
  simp only[AO] at h
  split at h
  ·rename_i p v A;exact⟨v,⟨p,A,h.1⟩,h.2⟩
  ·exact h.elim
 | .c e f args,d,hd,h=>by
  simp only[lW,Vi] at hd;subst hd
  simp only[AO] at h
  split at h
  ·rename_i F caps as h1 h2
   obtain⟨res,hs,C,hk⟩:=h
   refine⟨.d res, ?_,hk⟩
   simp only[YS,h1,h2]
   exact⟨res,hs,C,rfl⟩
  ·exact h.elim
 | .w _ _,d,hd,h=>by simp[lW] at hd
 | .o _ _,d,hd,h=>by simp[lW] at hd
 | .p _ _ _,d,hd,h=>by simp[lW] at hd
 | .x _ _ _,d,hd,h=>by simp[lW] at hd
 | .q _ _ _ _,d,hd,h=>by simp[lW] at hd
 | .g t want e o,d,hd,h=>by
  simp only[lW] at hd
  split at hd
  ·rename_i e' g
   split at hd
   ·rename_i r8
    simp only[Vi] at hd
    subst hd r8
    simp only[AO] at h
    split at h
    ·rename_i b hb
     by_cases G:b=want
     ·obtain⟨v,hv,hk⟩:=HR g (h.1 G)
      exact⟨v,.inl ⟨b,hb,.inl ⟨G,hv⟩⟩,hk⟩
     ·have a:b= !want:=by cases b<;>cases want<;>simp_all
      exact⟨.d (.tup []),.inl ⟨b,hb,.inr ⟨a,rfl⟩⟩,h.2 a⟩
    ·rename_i hu
     exact⟨.d (.tup []),.inr ⟨hu,rfl⟩,h⟩
    ·exact h.elim
   ·cases hd
  ·cases hd
theorem Fk {P:Program} {h:Nat->Ch} {s:Nat->SV} {v:SV}:∀ {so:SO} {d:Nat},lW so=some d->YS P h so s v->AO P so ⟨s,h⟩ (· =⟨ap s d v,h⟩)
 | .r e op,d,hd,hy=>by
  simp only[lW,Vi] at hd;subst hd
  simp only[YS] at hy
  obtain⟨p,A,Y⟩:=hy
  simp only[AO,A]
  exact⟨Y,trivial⟩
 | .c e f args,d,hd,hy=>by
  simp only[lW,Vi] at hd;subst hd
  simp only[YS] at hy
  simp only[AO]
  split at hy
  ·rename_i F caps as h1 h2
   obtain⟨res,hs,C,rfl⟩:=hy
   (try simp only[h1,h2])
   exact⟨res,hs,C,rfl⟩
  ·exact hy.elim
 | .w _ _,d,hd,hy=>by simp[lW] at hd
 | .o _ _,d,hd,hy=>by simp[lW] at hd
 | .p _ _ _,d,hd,hy=>by simp[lW] at hd
 | .x _ _ _,d,hd,hy=>by simp[lW] at hd
 | .q _ _ _ _,d,hd,hy=>by simp[lW] at hd
 | .g t want e o,d,hd,hy=>by
  simp only[lW] at hd
  split at hd
  ·rename_i e' g
   split at hd
   ·rename_i r8
    simp only[Vi] at hd
    subst hd r8
    simp only[YS] at hy
    rcases hy with⟨b,hb,hc⟩|⟨hu,rfl⟩
    case inr=>simp only[AO,hu,putS]
    simp only[AO,hb]
    refine⟨fun G=> ?_,fun G=> ?_⟩
    ·rcases hc with⟨_,hv⟩|⟨h1,_⟩
     ·exact Fk g hv
     ·subst G;cases b<;>simp at h1
    ·rcases hc with⟨h1,_⟩|⟨_,rfl⟩
     ·subst h1;cases b<;>simp at G
     ·simp[putS]
   ·cases hd
  ·cases hd
def HS:List SO->Option (List Nat)
 |[]=>some []
 |o::l=>match lW o,HS l with
  |some d,some J=>some (d::J)
  |_,_=>none
def BN (J:List Nat) (b:List SV) (s0:Nat->SV) (S:Nat->Bool):Nat->SV:=fun t=>
 match J.idxOf? t with
 |some i=>if S i then b.getD i (.d .any) else s0 t
 |none=>s0 t
theorem Lz (hn:J.Nodup) (h:J[i]?=some d):J.idxOf? d=some i:=by
 induction J generalizing i with
 |nil=>simp at h
 |cons e J ih=>
  simp only[XK] at hn
  cases i with
  |zero=>simp at h;subst h;simp[List.idxOf?_cons]
  |succ i=>
   simp at h
   have U:e≠d:=fun he=>hn.1 (he▸Vq h)
   rw[List.idxOf?_cons]
   simp[U,ih hn.2 h]
theorem Fl (h:J.idxOf? d=some i):J[i]?=some d:=by
 induction J generalizing i with
 |nil=>simp at h
 |cons e J ih=>
  rw[List.idxOf?_cons] at h
  split at h
  ·rename_i he;simp at h;subst h;simp at he;simp[he]
  ·simp only[Option.map_eq_some_iff] at h
   obtain⟨j,hj,rfl⟩:=h
   simpa using ih hj
theorem Kt {S:Nat->Bool} {v:SV} (hn:J.Nodup) (hd:J[j]?=some d) (hv:b[j]?=some v):
  ap (BN J b s0 S) d v=BN J b s0 (fun i=>S i||i==j):=by
 funext t
 by_cases ht:t=d
 ·subst ht
  simp[aC,BN,Lz hn hd,List.getD,hv]
 ·rw[bh _ _ _ _ ht]
  unfold BN
  cases hi:J.idxOf? t with
  |none=>rfl
  |some i=>
   have U:i≠j:=fun e=>by
    subst e
    have:=Fl hi
    rw[hd] at this;simp at this;exact ht this.symm
   simp[U]
theorem C6:∀ {sos:List SO} {J:List Nat},HS sos=some J->J.length=sos.length/\∀ (j:Nat) (so:SO),sos[j]?=some so->∃ d,J[j]?=some d/\lW so=some d
 |[],J,h=>by simp only[HS,Vi] at h;subst h;simp
 |o::l,J,h=>by
  simp only[HS] at h
  split at h
  ·rename_i d i h1 h2
   simp only[Vi] at h;subst h
   obtain⟨E,h4⟩:=C6 h2
   refine⟨by simp[E],fun j so hj=> ?_⟩
   cases j with
   |zero=>simp at hj;subst hj;exact⟨d,by simp,h1⟩
   |succ j=>simpa using h4 j so (by simpa using hj)
  ·cases h
theorem QS {P:Program} {K:St->Prop} {h:Nat->Ch} {s0:Nat->SV} {J:List Nat} (hn:J.Nodup):∀ (sos:List SO) (k:Nat) (b:List SV),b.length=k->(∀ (j:Nat) (so:SO),sos[j]?=some so->∃ d,J[k+j]?=some d/\lW so=some d)->k+sos.length=J.length->
  aI P K sos ⟨BN J b s0 (fun i=>decide (i<k)),h⟩->
  ∃ more:List SV,more.length=sos.length/\(∀ (j:Nat) (so:SO) (v:SV),sos[j]?=some so->more[j]?=some v->YS P h so (BN J (b++more) s0 (fun i=>decide (i<k+j))) v)/\K ⟨BN J (b++more) s0 (fun i=>decide (i<J.length)),h⟩
 |[],k,b,hk,hd,hl,ha=>by
  refine⟨[],rfl,by simp, ?_⟩
  simp only[Vp,WO] at hl
  simp only[VL]
  rw[<-hl];exact ha
 |so::sos,k,b,hk,hd,hl,ha=>by
  simp only[aI] at ha
  obtain⟨d,a,p⟩:=hd 0 so oS
  simp only[WO] at a
  obtain⟨v,hv,e⟩:=HR p ha
  have pre:∀ (l:List SV) (n:Nat),n<=k->BN J (b++l) s0 (fun i=>decide (i<n))=BN J b s0 (fun i=>decide (i<n)):=fun l n A=>by
   funext t
   unfold BN
   cases J.idxOf? t with
   |none=>rfl
   |some i=>
    by_cases hi:i<n
    ·simp[hi,List.getD,V7 (show i<b.length by omega)]
    ·simp[hi]
  have step:ap (BN J b s0 (fun i=>decide (i<k))) d v=BN J (b++[v]) s0 (fun i=>decide (i<k+1)):=by
   rw[<-pre [v] k (Vs _),Kt hn a (v:=v) (by rw[VP oM];simp[hk])]
   congr 1
   funext i
   by_cases h1:i<k
   ·simp[h1,show i<k+1 by omega]
   ·by_cases h2:i=k
    ·subst h2;simp
    ·simp[h1,h2,show¬ i<k+1 by omega]
  simp only[step] at e
  obtain⟨more,s3,r8,L⟩:=QS hn sos (k+1) (b++[v]) (by simp[hk]) (fun j r3 hj=>by
   have:=hd (j+1) r3 (by simpa using hj)
   rw[show k+1+j=k+(j+1) by omega];exact this) (by simp only[Vk] at hl;omega) e
  refine⟨v::more,by simp[s3],fun j r3 v' hj r7=> ?_,by simpa using L⟩
  cases j with
  |zero=>
   simp at hj r7
   subst hj r7
   rw[WO,pre _ k (Vs _)]
   exact hv
  |succ j=>
   have:=r8 j r3 v' (by simpa using hj) (by simpa using r7)
   rw[show k+(j+1)=k+1+j by omega]
   simpa using this
def vm (all:Array Oper) (j:Nat):Nat->List Nat->Bool
 |0,S=>S.contains j
 |k+1,S=>vm all j k (if S.contains (k+1) then match all[k+1]? with|some o=>S++((o.after.toList.filter (Region.binds .any)).map (·.on))|none=>S else S)
theorem l3 {all:Array Oper} {j:Nat} {r:Array Bool} (hc:∀ (i:Nat) o,r.getD i false=true->all[i]?=some o->∀ e∈o.after,Region.binds .any e=true->r.getD e.on false=true):
  ∀ (k:Nat) (S:List Nat),(∀ x∈S,r.getD x false=true)->vm all j k S=true->r.getD j false=true
 |0,S,hS,hb=>hS j (by simpa[vm] using hb)
 |k+1,S,hS,hb=>by
  simp only[vm] at hb
  refine l3 hc k _ ?_ hb
  intro x hx
  split at hx
  ·rename_i hk
   split at hx
   ·rename_i o ho
    rcases VM.1 hx with hx|hx
    ·exact hS x hx
    ·obtain⟨e,he,rfl⟩:=VT.1 hx
     obtain⟨he,h6⟩:=Xx.1 he
     exact hc (k+1) o (hS _ (by simpa using hk)) ho e (by simpa using he) h6
   ·exact hS x hx
  ·exact hS x hx
def ze (all:Array Oper) (J:List Nat):Nat->List Oper->List SO->Bool
 |_,[],[]=>true
 |j,o::ops,so::sos=>o.after.all (fun e=> !Region.binds .any e||decide (e.on<j))&&
   (Ks (Ly so)).all (fun t=>match J.idxOf? t with|some i=>(decide (i<j)&&o.after.any (fun e=>Region.binds .any e&&e.on==i))||(decide (j<=i)&&(i==j||vm all j i [i]))|none=>true)&&ze all J (j+1) ops sos
 |_,_,_=>false
theorem Aj {all:Array Oper} {J:List Nat}:∀ {ops:List Oper} {sos:List SO} {k:Nat},ze all J k ops sos=true->∀ (j:Nat) (o:Oper) (so:SO),ops[j]?=some o->sos[j]?=some so->
  (∀ e∈o.after,Region.binds .any e=true->e.on<k+j)/\∀ t∈Ks (Ly so),∀ i,J.idxOf? t=some i->(i<k+j/\∃ e∈o.after,Region.binds .any e=true/\e.on=i)\/(k+j<=i/\(i=k+j\/vm all (k+j) i [i]=true))
 |[],[],k,h,j,o,so,ho,hs=>by simp at ho
 |o'::ops,r3::sos,k,h,j,o,so,ho,hs=>by
  simp only[ze,Vj] at h
  obtain⟨⟨h1,h2⟩,E⟩:=h
  cases j with
  |zero=>
   simp at ho hs
   subst ho hs
   refine⟨fun e he hb=> ?_,fun t ht i hi=> ?_⟩
   ·have:=WR.1 h1 e he
    simpa[hb] using this
   ·have:=VN.1 h2 t ht
    simp only[hi,V8,Vj,Vv,Vz] at this
    rcases this with this|this
    ·refine .inl ⟨this.1, ?_⟩
     obtain⟨e,he,hb⟩:=Array.any_eq_true'.1 this.2
     simp only[Vj,Vz] at hb
     exact⟨e,he,hb.1,hb.2⟩
    ·exact .inr this
  |succ j=>
   have:=Aj E j o so (by simpa using ho) (by simpa using hs)
   rw[show k+(j+1)=k+1+j by omega]
   exact this
 |[],_::_,k,h,_,_,_,_,_=>by simp[ze] at h
 |_::_,[],k,h,_,_,_,_,_=>by simp[ze] at h
theorem hL {P:Program} {N:Nat} {ops:Array Oper}:∀ {l:List Oper} {sos:List SO},a_ P N ops l sos=true->l.length=sos.length/\∀ (j:Nat) (o:Oper) (so:SO),l[j]?=some o->sos[j]?=some so->l4 P N ops o so=true
 |[],[],_=>by simp
 |o'::l,r3::sos,h=>by
  simp only[a_,Vj] at h
  obtain⟨h1,h2⟩:=hL h.2
  refine⟨by simp[h1],fun j o so ho hs=> ?_⟩
  cases j with
  |zero=>simp at ho hs;subst ho hs;exact h.1
  |succ j=>exact h2 j o so (by simpa using ho) (by simpa using hs)
 |[],_::_,h=>by simp[a_] at h
 |_::_,[],h=>by simp[a_] at h
def Bi (n:Nat) (r:Array Bool):List Nat:=(List.range n).filter fun i=> !r.getD i true
theorem Gu {n:Nat} (hi:i<n) (hs:r.size=n) (hl:r.getD i true=false):(Bi n (r.setIfInBounds i true)).length+1=(Bi n r).length:=by
 have M:i∈Bi n r:=by simp only[Bi,Xx,Wh,hi,hl,VB,and_self]
 have G:(Bi n r).Nodup:=List.Pairwise.filter _ List.nodup_range
 have B:Bi n (r.setIfInBounds i true)=(Bi n r).erase i:=by
  rw[G.erase_eq_filter]
  unfold Bi
  rw[List.filter_filter]
  apply List.filter_congr
  intro j hj
  by_cases f:i=j
  ·subst f
   simp[hs,hi]
  ·rw[getD_set_ne true f]
   simp[Ne.symm f]
 rw[B,List.length_erase_of_mem M]
 have:=List.length_pos_of_mem M
 omega
theorem yp {o:Oper} (hc:∀ (i:Nat) o,r.getD i false=true->ops[i]?=some o->∀ e∈o.after,Region.binds .any e=true->r.getD e.on false=true) (ho:ops[j]?=some o) (s6:∀ e∈o.after,Region.binds .any e=true->r.getD e.on false=true) (hj:j<r.size):
  ∀ (i:Nat) o,(r.setIfInBounds j true).getD i false=true->ops[i]?=some o->∀ e∈o.after,Region.binds .any e=true->(r.setIfInBounds j true).getD e.on false=true:=by
 have mono:∀ k,r.getD k false=true->(r.setIfInBounds j true).getD k false=true:=fun k hk=>by
  by_cases b:j=k
  ·subst b;simp[hj]
  ·rw[getD_set_ne false b];exact hk
 intro i o' hi ho' e he hb
 by_cases f:j=i
 ·subst f
  rw[ho] at ho';cases ho'
  exact mono _ (s6 e he hb)
 ·rw[getD_set_ne false f] at hi
  exact mono _ (hc i o' hi ho' e he hb)
section
variable {P:Program} {c:Cx}
theorem LA (hQ:∀ O W h7 a' w',dp c O W h7 a' w'->K O->Q .normal a' w') (Z:a_ P c.N ops ops.toList sos=true) (L:HS sos=some J) (hn:J.Nodup) (m:ze ops J 0 ops.toList sos=true) (v6:b.length=sos.length) (k:∀ (j:Nat) so v,sos[j]?=some so->b[j]?=some v->YS P h so (BN J b s0 (fun i=>decide (i<j))) v) (hK:K ⟨BN J b s0 (fun i=>decide (i<J.length)),h⟩):
  ∀ (u:Nat) (r:Array Bool) (κ:Nat->Value) (φ:Nat->List Nat) (a:Act) (w:World),r.size=ops.size->(Bi ops.size r).length=u->(∀ (i:Nat) o,r.getD i false=true->ops[i]?=some o->∀ e∈o.after,Region.binds .any e=true->r.getD e.on false=true)->dp c ⟨BN J b s0 (fun i=>r.getD i false),h⟩ κ φ a w->
   wpAny P .any ops Q u r a w:=by
 obtain⟨s9,v1⟩:=hL Z
 obtain⟨w9,f⟩:=C6 L
 have I:J.length=ops.size:=by simp at s9;omega
 have fin:∀ (r:Array Bool) (κ:Nat->Value) (φ:Nat->List Nat) (a:Act) (w:World),r.size=ops.size->dp c ⟨BN J b s0 (fun i=>r.getD i false),h⟩ κ φ a w->Region.ready .any ops r=[]->Q .normal a w:=by
  intro r κ φ a w V D H
  have all:∀ j,j<ops.size->r.getD j false=true:=by
   intro j
   induction j using Nat.strongRecOn with
   |_ j ih=>
    intro hj
    by_cases hl:r.getD j true=false
    ·exfalso
     have ho:ops[j]?=some ops[j]:=WN hj
     have B:∃ so,sos[j]?=some so:=⟨_,Vu (by simp at s9;omega)⟩
     obtain⟨so,B⟩:=B
     have hx:=Aj m j ops[j] so oS B
     have:j∈Region.ready .any ops r:=mem_ready.2 ⟨hl,ops[j],ho,fun e he hb=>ih e.on (by have:=hx.1 e he hb;omega) (by have:=hx.1 e he hb;omega)⟩
     rw[H] at this;simp at this
    ·have X:j<r.size:=by omega
     simp[X] at hl⊢
     exact hl
  refine hQ _ _ _ _ _ D ?_
  have:BN J b s0 (fun i=>r.getD i false)=BN J b s0 (fun i=>decide (i<J.length)):=by
   funext t
   unfold BN
   cases hi:J.idxOf? t with
   |none=>rfl
   |some i=>
    have h9:i<J.length:=(Vr.1 (Fl hi)).1
    have h1:=all i oM
    simp only[h1,h9,VS]
  rw[this];exact hK
 intro u
 induction u with
 |zero=>
  intro r κ φ a w V hu _ D
  have H:Region.ready .any ops r=[]:=by
   cases A:Region.ready .any ops r with
   |nil=>rfl
   |cons i l=>
    exfalso
    have hi:i∈Region.ready .any ops r:=by rw[A];simp
    obtain⟨h0,o,ho,_⟩:=mem_ready.1 hi
    have:i∈Bi ops.size r:=by simp only[Bi,Xx,Wh,h0,VB,and_true];exact(VV.1 ho).1
    rw[Vx.1 hu] at this;simp at this
  exact⟨H,fin r κ φ a w V D H⟩
 |succ u ih=>
  intro r κ φ a w V hu h6 D
  refine⟨fin r κ φ a w V D,fun j hj=> ?_⟩
  obtain⟨h0,o,ho,s6⟩:=mem_ready.1 hj
  have v3:j<ops.size:=(VV.1 ho).1
  have B:∃ so,sos[j]?=some so:=⟨_,Vu (by simp at s9;omega)⟩
  obtain⟨so,B⟩:=B
  have hv:∃ v,b[j]?=some v:=⟨_,Vu (by have:=(Vr.1 B).1;omega)⟩
  obtain⟨v,hv⟩:=hv
  obtain⟨d,hd,p⟩:=f j so B
  have hx:=Aj m j o so (by simpa using ho) B
  have hy:YS P h so (BN J b s0 (fun i=>r.getD i false)) v:=by
   refine zd (Jr fun t ht=> ?_) (k j so v B hv)
   unfold BN
   cases hi:J.idxOf? t with
   |none=>rfl
   |some i=>
    rcases hx.2 t ht i hi with⟨h1,e,he,hb,g⟩|⟨h1,h2⟩
    ·have h2:=s6 e he hb
     rw[g] at h2
     have E:i<j:=by omega
     simp only[h2,E,VS]
    ·have s1:r.getD j false=false:=by
      simp only[V2] at h0⊢
      have:j<r.size:=by omega
      simpa[this] using h0
     have E:¬ i<j:=by omega
     have h4:r.getD i false=false:=by
      rcases h2 with rfl|h2
      ·simpa using s1
      ·rw[VD] at h2
       cases w2:r.getD i false with
       |false=>rfl
       |true=>
        have:=l3 h6 i [i] (by simpa using w2) h2
        rw[s1] at this;cases this
     simp only[E,h4,Xh,Vw,VQ]
  have qn:=Fk p hy
  have qa:=v1 j o so (by simpa using ho) B
  unfold wpOp
  simp only[ho]
  refine xm D qa qn fun O W h7 a' w' h8 hk=> ?_
  subst hk
  have w2:(Bi ops.size (r.setIfInBounds j true)).length=u:=by
   have:=Gu v3 V h0
   omega
  refine ih (r.setIfInBounds j true) W h7 a' w' (by simp[V]) w2 ?_ ?_
  ·exact yp h6 ho s6 oM
  have:BN J b s0 (fun i=>(r.setIfInBounds j true).getD i false)=ap (BN J b s0 (fun i=>r.getD i false)) d v:=by
   rw[Kt hn hd hv]
   congr 1
   funext i
   by_cases r0:j=i
   ·subst r0;simp[V,v3]
   ·rw[getD_set_ne false r0];simp[Ne.symm r0]
  rw[this];exact h8
theorem HU (p:P.follows .mixedOrders=true) {id:Nat} {σ:St} {κ:Nat->Value} {φ:Nat->List Nat} {a:Act} {w:World} (hQ:∀ O W h7 a' w',dp c O W h7 a' w'->K O->Q .normal a' w') (Z:a_ P c.N ops ops.toList sos=true) (L:HS sos=some J) (hn:J.Nodup) (m:ze ops J 0 ops.toList sos=true) (D:dp c σ κ φ a w) (h:aI P K sos σ):
  (Code.region id ops true).wp P Q a w:=by
 obtain⟨s9,v1⟩:=hL Z
 obtain⟨w9,f⟩:=C6 L
 have h0:∀ b:List SV,BN J b σ.s (fun _=>false)=σ.s:=fun b=>by
  funext t;unfold BN;cases J.idxOf? t<;>simp
 obtain⟨b,v6,k,hK⟩:=QS (P:=P) (K:=K) (h:=σ.h) (s0:=σ.s) hn sos 0 [] rfl (fun j so hj=>by simpa using f j so hj) (by simpa using w9.symm) (by
  have:(fun i:Nat=>decide (i<0))=fun _=>false:=by funext i;simp
  rw[this,h0];exact h)
 simp only[VC,VD] at k hK
 refine wp_region_any p (LA (c:=c) hQ Z L hn m v6 k hK ops.size _ κ φ a _ oS ?_ ?_ ?_)
 ·have:Bi ops.size (Array.replicate ops.size false)=List.range ops.size:=by
   unfold Bi
   rw[List.filter_eq_self]
   intro i hi
   simp at hi
   simp[hi]
  rw[this];simp
 ·intro i o hi
  by_cases h9:i<ops.size<;>simp[h9] at hi
 ·have:(fun i:Nat=>(Array.replicate ops.size false).getD i false)=fun _=>false:=by
   funext i
   by_cases hi:i<ops.size<;>simp[hi]
  rw[this,h0]
  exact D.grown ((Below.refl _ _).drew)
end
