/-
  My text.
-/
import Derived.Test.YtgmnipfafmphaaaGreatDoorSYEngQ
namespace Go.Proofs.YtgmnipfafmphaaaGreatDoor
set_option linter.unusedSimpArgs false
set_option linter.unusedVariables false
open Go.RowKit
variable {J:List Nat} {K:St->Prop} {Q:Exit->Act->World->Prop} {b:List SV} {d:Nat} {h:Nat->Ch} {i j:Nat} {ops:Array Oper} {r:Array Bool} {s s' s0:Nat->SV} {sos:List SO} {xs:List SX}
def pC:oX->List SX
 | .mv x=>[x]
 | .pick c a b=>[c,a,b]
 | .boxI x=>[x]
 | .ld1 x=>[x]
 | .ldA _ x=>[x]
 | .fld _ x=>[x]
 | .prt1 _ x=>[x]
 | .prtA _ _ x=>[x]
 | .idx _ x i=>[x,i]
 | .sidx x i=>[x,i]
 | .bin _ x y=>[x,y]
 | .binB _ x y=>[x,y]
 | .binI _ x y=>[x,y]
 | .binP _ x y=>[x,y]
 | .not x=>[x]
 | .neg x=>[x]
 | .cvi _ x=>[x]
 | .ext x _=>[x]
 | .len x=>[x]
 | .lenT x=>[x]
 | .lenM x=>[x]
 | .mins x xs=>x::xs
 | .maxs x xs=>x::xs
 | .mkfn _ xs=>xs
 | .build _ ps=>ps.map (·.2.2)
 | .bslice _ xs=>xs
 | .slc _ x lo hi=>x::(lo.toList++hi.toList)
 | .sslc x lo hi=>x::(lo.toList++hi.toList)
 | .look _ _ _ m k=>[m,k]
 | .eqs _ _ x y=>[x,y]
 | .nilc x=>[x]
 | .gd _ _ _=>[]
 | .aidx _ _ x i=>[x,i]
 | .slcP _ x i=>[x,i]
 | .slc3 _ x lo hi mx=>x::hi::mx::lo.toList
 | .cvis x=>[x]
 | .cvbs x=>[x]
 | .cvsb x=>[x]
 | .cl t ts=> .t t::ts.map .t
theorem Ak (h:∀ x∈xs,ev s x=ev s' x):xs.map (ev s)=xs.map (ev s'):=TR h
theorem pN {x:Option SX} (h:∀ y∈x.toList,ev s y=ev s' y):zu s x=zu s' x:=by
 cases x with
 |none=>rfl
 |some y=>simp only[zu,h y oS]
theorem Al {op:oX} (hx:∀ x∈pC op,ev s x=ev s' x):rd h s op=rd h s' op:=by
 cases op with
 |cl t ts=>
  have h1:s t=s' t:=hx (.t t) (by simp[pC])
  have h2:∀ l:List Nat,(∀ n∈l,s n=s' n)->ly s l=ly s' l:=fun l=>by
   induction l with
   |nil=>intro _;rfl
   |cons n l ih=>intro h;simp only[ly,h n oS,ih fun m Z=>h m (by simp[Z])]
  simp only[rd,h1,h2 ts fun n hn=>hx (.t n) (by simp[pC,hn])]
 |mins x xs=>simp only[rd,hx x (by simp[pC]),Ak (xs:=xs) fun y hy=>hx y (by simp[pC,hy])]
 |maxs x xs=>simp only[rd,hx x (by simp[pC]),Ak (xs:=xs) fun y hy=>hx y (by simp[pC,hy])]
 |mkfn f xs=>simp only[rd,Ak (xs:=xs) fun y hy=>hx y (by simpa[pC] using hy)]
 |bslice sz xs=>simp only[rd,Ak (xs:=xs) fun y hy=>hx y (by simpa[pC] using hy)]
 |build zs ps=>
  have:(ps.map fun p=>(p.1,p.2.1,ev s p.2.2))=ps.map fun p=>(p.1,p.2.1,ev s' p.2.2):=TR fun p Y=>by
   rw[hx p.2.2 (by simp only[pC,Tp];exact⟨p,Y,rfl⟩)]
  simp only[rd,this]
 |slc sz x lo hi=>simp only[rd,hx x (by simp[pC]),pN (x:=lo) fun y hy=>hx y (by simp[pC];simp at hy;simp[hy]),pN (x:=hi) fun y hy=>hx y (by simp[pC];simp at hy;simp[hy])]
 |sslc x lo hi=>simp only[rd,hx x (by simp[pC]),pN (x:=lo) fun y hy=>hx y (by simp[pC];simp at hy;simp[hy]),pN (x:=hi) fun y hy=>hx y (by simp[pC];simp at hy;simp[hy])]
 |pick c b d=>simp only[pC,Tf,T6,or_false,forall_eq_or_imp,forall_eq] at hx;obtain⟨h1,h2,E⟩:=hx;simp only[rd,h1,h2,E]
 |idx sz x i=>simp only[pC,Tf,T6,or_false,forall_eq_or_imp,forall_eq] at hx;obtain⟨h1,h2⟩:=hx;simp only[rd,h1,h2]
 |aidx sz n x i=>simp only[pC,Tf,T6,or_false,forall_eq_or_imp,forall_eq] at hx;obtain⟨h1,h2⟩:=hx;simp only[rd,h1,h2]
 |slcP n x i=>simp only[pC,Tf,T6,or_false,forall_eq_or_imp,forall_eq] at hx;obtain⟨h1,h2⟩:=hx;simp only[rd,h1,h2]
 |slc3 sz x lo hi mx=>simp only[rd,hx x (by simp[pC]),hx hi (by simp[pC]),hx mx (by simp[pC]),pN (x:=lo) fun y hy=>hx y (by simp[pC];simp at hy;simp[hy])]
 |sidx x i=>simp only[pC,Tf,T6,or_false,forall_eq_or_imp,forall_eq] at hx;obtain⟨h1,h2⟩:=hx;simp only[rd,h1,h2]
 |bin o x i=>simp only[pC,Tf,T6,or_false,forall_eq_or_imp,forall_eq] at hx;obtain⟨h1,h2⟩:=hx;simp only[rd,h1,h2]
 |binB o x i=>simp only[pC,Tf,T6,or_false,forall_eq_or_imp,forall_eq] at hx;obtain⟨h1,h2⟩:=hx;simp only[rd,h1,h2]
 |eqs o kks x i=>simp only[pC,Tf,T6,or_false,forall_eq_or_imp,forall_eq] at hx;obtain⟨h1,h2⟩:=hx;simp only[rd,h1,h2]
 |look kk z ok x i=>simp only[pC,Tf,T6,or_false,forall_eq_or_imp,forall_eq] at hx;obtain⟨h1,h2⟩:=hx;simp only[rd,h1,h2]
 |binI o x i=>simp only[pC,Tf,T6,or_false,forall_eq_or_imp,forall_eq] at hx;obtain⟨h1,h2⟩:=hx;simp only[rd,h1,h2]
 |binP o x i=>simp only[pC,Tf,T6,or_false,forall_eq_or_imp,forall_eq] at hx;obtain⟨h1,h2⟩:=hx;simp only[rd,h1,h2]
 |gd _ _ _=>rfl
 |_=>simp only[pC,Tf,T6,or_false,forall_eq] at hx;simp only[rd,hx]
def Jq:SO->List SX
 | .r _ op=>pC op
 | .c _ f args=>f::args
 | .w _ _=>[]
 | .o _ _=>[]
 | .p _ _ _=>[]
 | .x _ _ _=>[]
 | .q _ _ _ _=>[]
 | .g t _ _ o=> .t t::Jq o
def H6:List SX->List Nat:=List.filterMap fun| .t n=>some n|_=>none
theorem G6 (h:∀ t∈H6 xs,s t=s' t):∀ x∈xs,ev s x=ev s' x:=by
 intro x hx
 cases x with
 |t n=>exact h n (List.mem_filterMap.2 ⟨.t n,hx,rfl⟩)
 |c v=>rfl
 |f i=>rfl
def YS (P:Program) (h:Nat->Ch):SO->(Nat->SV)->SV->Prop
 | .r _ op,s,v=>∃ p,rd h s op=some (p,v)/\p
 | .c _ f args,s,v=>match ev s f,SV.lends h (args.map (ev s)) with
  | .d (.fn F caps),some as=>∃ res,ac P F (as++caps) res/\((SV.toDVs (args.map (ev s))).isSome=true\/res.flat=true)/\v= .d res
  |_,_=>False
 | .w _ _,_,_=>False
 | .o _ _,_,_=>False
 | .p _ _ _,_,_=>False
 | .x _ _ _,_,_=>False
 | .q _ _ _ _,_,_=>False
 | .g t want _ o,s,v=>(∃ b,s t= .d (.bool b)/\((b=want/\YS P h o s v)\/(b= !want/\v= .d (.tup []))))\/(s t= .d (.tup [])/\v= .d (.tup []))
theorem wi {P:Program} {h:Nat->Ch} {s s':Nat->SV} {v:SV}:∀ {so:SO},(∀ x∈Jq so,ev s x=ev s' x)->YS P h so s v->YS P h so s' v
 | .r _ op,hx,hy=>by
  simp only[YS] at *
  rw[<-Al (h:=h) (s:=s) (s':=s') hx];exact hy
 | .c _ f args,hx,hy=>by
  simp only[YS] at *
  rw[<-hx f (by simp[Jq]),<-Ak (xs:=args) fun y hy=>hx y (by simp[Jq,hy])];exact hy
 | .w _ _,hx,hy=>hy.elim
 | .o _ _,hx,hy=>hy.elim
 | .p _ _ _,hx,hy=>hy.elim
 | .x _ _ _,hx,hy=>hy.elim
 | .q _ _ _ _,hx,hy=>hy.elim
 | .g t want dst o,hx,hy=>by
  simp only[YS] at *
  have ht:s t=s' t:=hx (.t t) (by simp[Jq])
  rcases hy with⟨b,hb,hc⟩|⟨hu,hv⟩
  case inr=>exact .inr ⟨by rw[<-ht];exact hu,hv⟩
  refine .inl ⟨b,by rw[<-ht];exact hb,hc.imp (fun⟨h1,h2⟩=>⟨h1,wi (fun x H=>hx x (by simp[Jq,H])) h2⟩) id⟩
def iU:SO->Option Nat
 | .r d _=>some d
 | .c d _ _=>some d
 | .w _ _=>none
 | .o _ _=>none
 | .p _ _ _=>none
 | .x _ _ _=>none
 | .q _ _ _ _=>none
 | .g _ _ d o=>match iU o with|some e=>if d=some e then some e else none|none=>none
theorem Ft {P:Program} {K:St->Prop} {σ:St}:∀ {so:SO} {d:Nat},iU so=some d->AO P so σ K->∃ v,YS P σ.h so σ.s v/\K ⟨am σ.s d v,σ.h⟩
 | .r e op,d,hd,h=>by
  simp only[iU,SN] at hd;subst hd
  simp only[AO] at h
  split at h
  ·rename_i p v A;exact⟨v,⟨p,A,h.1⟩,h.2⟩
  ·exact h.elim
 | .c e f args,d,hd,h=>by
  simp only[iU,SN] at hd;subst hd
  simp only[AO] at h
  split at h
  ·rename_i F caps as h1 h2
   obtain⟨res,hs,C,hk⟩:=h
   refine⟨.d res, ?_,hk⟩
   simp only[YS,h1,h2]
   exact⟨res,hs,C,rfl⟩
  ·exact h.elim
 | .w _ _,d,hd,h=>by simp[iU] at hd
 | .o _ _,d,hd,h=>by simp[iU] at hd
 | .p _ _ _,d,hd,h=>by simp[iU] at hd
 | .x _ _ _,d,hd,h=>by simp[iU] at hd
 | .q _ _ _ _,d,hd,h=>by simp[iU] at hd
 | .g t want e o,d,hd,h=>by
  simp only[iU] at hd
  split at hd
  ·rename_i e' g
   split at hd
   ·rename_i r5
    simp only[SN] at hd
    subst hd r5
    simp only[AO] at h
    split at h
    ·rename_i b hb
     by_cases G:b=want
     ·obtain⟨v,hv,hk⟩:=Ft g (h.1 G)
      exact⟨v,.inl ⟨b,hb,.inl ⟨G,hv⟩⟩,hk⟩
     ·have a:b= !want:=by cases b<;>cases want<;>simp_all
      exact⟨.d (.tup []),.inl ⟨b,hb,.inr ⟨a,rfl⟩⟩,h.2 a⟩
    ·rename_i hu
     exact⟨.d (.tup []),.inr ⟨hu,rfl⟩,h⟩
    ·exact h.elim
   ·cases hd
  ·cases hd
theorem CS {P:Program} {h:Nat->Ch} {s:Nat->SV} {v:SV}:∀ {so:SO} {d:Nat},iU so=some d->YS P h so s v->AO P so ⟨s,h⟩ (· =⟨am s d v,h⟩)
 | .r e op,d,hd,hy=>by
  simp only[iU,SN] at hd;subst hd
  simp only[YS] at hy
  obtain⟨p,A,Y⟩:=hy
  simp only[AO,A]
  exact⟨Y,trivial⟩
 | .c e f args,d,hd,hy=>by
  simp only[iU,SN] at hd;subst hd
  simp only[YS] at hy
  simp only[AO]
  split at hy
  ·rename_i F caps as h1 h2
   obtain⟨res,hs,C,rfl⟩:=hy
   (try simp only[h1,h2])
   exact⟨res,hs,C,rfl⟩
  ·exact hy.elim
 | .w _ _,d,hd,hy=>by simp[iU] at hd
 | .o _ _,d,hd,hy=>by simp[iU] at hd
 | .p _ _ _,d,hd,hy=>by simp[iU] at hd
 | .x _ _ _,d,hd,hy=>by simp[iU] at hd
 | .q _ _ _ _,d,hd,hy=>by simp[iU] at hd
 | .g t want e o,d,hd,hy=>by
  simp only[iU] at hd
  split at hd
  ·rename_i e' g
   split at hd
   ·rename_i r5
    simp only[SN] at hd
    subst hd r5
    simp only[YS] at hy
    rcases hy with⟨b,hb,hc⟩|⟨hu,rfl⟩
    case inr=>simp only[AO,hu,putS]
    simp only[AO,hb]
    refine⟨fun G=> ?_,fun G=> ?_⟩
    ·rcases hc with⟨_,hv⟩|⟨h1,_⟩
     ·exact CS g hv
     ·subst G;cases b<;>simp at h1
    ·rcases hc with⟨h1,_⟩|⟨_,rfl⟩
     ·subst h1;cases b<;>simp at G
     ·simp[putS]
   ·cases hd
  ·cases hd
def Fu:List SO->Option (List Nat)
 |[]=>some []
 |o::l=>match iU o,Fu l with
  |some d,some J=>some (d::J)
  |_,_=>none
def yX (J:List Nat) (b:List SV) (s0:Nat->SV) (S:Nat->Bool):Nat->SV:=fun t=>
 match J.idxOf? t with
 |some i=>if S i then b.getD i (.d .any) else s0 t
 |none=>s0 t
theorem Jr (hn:J.Nodup) (h:J[i]?=some d):J.idxOf? d=some i:=by
 induction J generalizing i with
 |nil=>simp at h
 |cons e J ih=>
  simp only[UQ] at hn
  cases i with
  |zero=>simp at h;subst h;simp[List.idxOf?_cons]
  |succ i=>
   simp at h
   have U:e≠d:=fun he=>hn.1 (he▸SW h)
   rw[List.idxOf?_cons]
   simp[U,ih hn.2 h]
theorem CT (h:J.idxOf? d=some i):J[i]?=some d:=by
 induction J generalizing i with
 |nil=>simp at h
 |cons e J ih=>
  rw[List.idxOf?_cons] at h
  split at h
  ·rename_i he;simp at h;subst h;simp at he;simp[he]
  ·simp only[Option.map_eq_some_iff] at h
   obtain⟨j,hj,rfl⟩:=h
   simpa using ih hj
theorem H7 {S:Nat->Bool} {v:SV} (hn:J.Nodup) (hd:J[j]?=some d) (hv:b[j]?=some v):
  am (yX J b s0 S) d v=yX J b s0 (fun i=>S i||i==j):=by
 funext t
 by_cases ht:t=d
 ·subst ht
  simp[ar,yX,Jr hn hd,List.getD,hv]
 ·rw[aY _ _ _ _ ht]
  unfold yX
  cases hi:J.idxOf? t with
  |none=>rfl
  |some i=>
   have U:i≠j:=fun e=>by
    subst e
    have:=CT hi
    rw[hd] at this;simp at this;exact ht this.symm
   simp[U]
theorem Am:∀ {sos:List SO} {J:List Nat},Fu sos=some J->J.length=sos.length/\∀ (j:Nat) (so:SO),sos[j]?=some so->∃ d,J[j]?=some d/\iU so=some d
 |[],J,h=>by simp only[Fu,SN] at h;subst h;simp
 |o::l,J,h=>by
  simp only[Fu] at h
  split at h
  ·rename_i d i h1 h2
   simp only[SN] at h;subst h
   obtain⟨E,h4⟩:=Am h2
   refine⟨by simp[E],fun j so hj=> ?_⟩
   cases j with
   |zero=>simp at hj;subst hj;exact⟨d,by simp,h1⟩
   |succ j=>simpa using h4 j so (by simpa using hj)
  ·cases h
theorem O7 {P:Program} {K:St->Prop} {h:Nat->Ch} {s0:Nat->SV} {J:List Nat} (hn:J.Nodup):∀ (sos:List SO) (k:Nat) (b:List SV),b.length=k->(∀ (j:Nat) (so:SO),sos[j]?=some so->∃ d,J[k+j]?=some d/\iU so=some d)->k+sos.length=J.length->
  aD P K sos ⟨yX J b s0 (fun i=>decide (i<k)),h⟩->
  ∃ more:List SV,more.length=sos.length/\(∀ (j:Nat) (so:SO) (v:SV),sos[j]?=some so->more[j]?=some v->YS P h so (yX J (b++more) s0 (fun i=>decide (i<k+j))) v)/\K ⟨yX J (b++more) s0 (fun i=>decide (i<J.length)),h⟩
 |[],k,b,hk,hd,hl,ha=>by
  refine⟨[],rfl,by simp, ?_⟩
  simp only[S3,Ul] at hl
  simp only[Tg]
  rw[<-hl];exact ha
 |so::sos,k,b,hk,hd,hl,ha=>by
  simp only[aD] at ha
  obtain⟨d,a,q⟩:=hd 0 so oS
  simp only[Ul] at a
  obtain⟨v,hv,e⟩:=Ft q ha
  have pre:∀ (l:List SV) (n:Nat),n<=k->yX J (b++l) s0 (fun i=>decide (i<n))=yX J b s0 (fun i=>decide (i<n)):=fun l n A=>by
   funext t
   unfold yX
   cases J.idxOf? t with
   |none=>rfl
   |some i=>
    by_cases hi:i<n
    ·simp[hi,List.getD,TP (show i<b.length by omega)]
    ·simp[hi]
  have step:am (yX J b s0 (fun i=>decide (i<k))) d v=yX J (b++[v]) s0 (fun i=>decide (i<k+1)):=by
   rw[<-pre [v] k (SZ _),H7 hn a (v:=v) (by rw[Tr oM];simp[hk])]
   congr 1
   funext i
   by_cases h1:i<k
   ·simp[h1,show i<k+1 by omega]
   ·by_cases h2:i=k
    ·subst h2;simp
    ·simp[h1,h2,show¬ i<k+1 by omega]
  simp only[step] at e
  obtain⟨more,Z,r7,h0⟩:=O7 hn sos (k+1) (b++[v]) (by simp[hk]) (fun j H hj=>by
   have:=hd (j+1) H (by simpa using hj)
   rw[show k+1+j=k+(j+1) by omega];exact this) (by simp only[ST] at hl;omega) e
  refine⟨v::more,by simp[Z],fun j H v' hj r9=> ?_,by simpa using h0⟩
  cases j with
  |zero=>
   simp at hj r9
   subst hj r9
   rw[Ul,pre _ k (SZ _)]
   exact hv
  |succ j=>
   have:=r7 j H v' (by simpa using hj) (by simpa using r9)
   rw[show k+(j+1)=k+1+j by omega]
   simpa using this
def rX (all:Array Oper) (j:Nat):Nat->List Nat->Bool
 |0,S=>S.contains j
 |k+1,S=>rX all j k (if S.contains (k+1) then match all[k+1]? with|some o=>S++((o.after.toList.filter (Region.binds .any)).map (·.on))|none=>S else S)
theorem i1 {all:Array Oper} {j:Nat} {r:Array Bool} (hc:∀ (i:Nat) o,r.getD i false=true->all[i]?=some o->∀ e∈o.after,Region.binds .any e=true->r.getD e.on false=true):
  ∀ (k:Nat) (S:List Nat),(∀ x∈S,r.getD x false=true)->rX all j k S=true->r.getD j false=true
 |0,S,hS,hb=>hS j (by simpa[rX] using hb)
 |k+1,S,hS,hb=>by
  simp only[rX] at hb
  refine i1 hc k _ ?_ hb
  intro x hx
  split at hx
  ·rename_i hk
   split at hx
   ·rename_i o ho
    rcases Te.1 hx with hx|hx
    ·exact hS x hx
    ·obtain⟨e,he,rfl⟩:=Tp.1 hx
     obtain⟨he,h6⟩:=U3.1 he
     exact hc (k+1) o (hS _ (by simpa using hk)) ho e (by simpa using he) h6
   ·exact hS x hx
  ·exact hS x hx
def wj (all:Array Oper) (J:List Nat):Nat->List Oper->List SO->Bool
 |_,[],[]=>true
 |j,o::ops,so::sos=>o.after.all (fun e=> !Region.binds .any e||decide (e.on<j))&&
   (H6 (Jq so)).all (fun t=>match J.idxOf? t with|some i=>(decide (i<j)&&o.after.any (fun e=>Region.binds .any e&&e.on==i))||(decide (j<=i)&&(i==j||rX all j i [i]))|none=>true)&&wj all J (j+1) ops sos
 |_,_,_=>false
theorem xx {all:Array Oper} {J:List Nat}:∀ {ops:List Oper} {sos:List SO} {k:Nat},wj all J k ops sos=true->∀ (j:Nat) (o:Oper) (so:SO),ops[j]?=some o->sos[j]?=some so->
  (∀ e∈o.after,Region.binds .any e=true->e.on<k+j)/\∀ t∈H6 (Jq so),∀ i,J.idxOf? t=some i->(i<k+j/\∃ e∈o.after,Region.binds .any e=true/\e.on=i)\/(k+j<=i/\(i=k+j\/rX all (k+j) i [i]=true))
 |[],[],k,h,j,o,so,ho,hs=>by simp at ho
 |o'::ops,H::sos,k,h,j,o,so,ho,hs=>by
  simp only[wj,SR] at h
  obtain⟨⟨h1,h2⟩,E⟩:=h
  cases j with
  |zero=>
   simp at ho hs
   subst ho hs
   refine⟨fun e he hb=> ?_,fun t ht i hi=> ?_⟩
   ·have:=Un.1 h1 e he
    simpa[hb] using this
   ·have:=Ti.1 h2 t ht
    simp only[hi,TE,SR,S5,S_] at this
    rcases this with this|this
    ·refine .inl ⟨this.1, ?_⟩
     obtain⟨e,he,hb⟩:=Array.any_eq_true'.1 this.2
     simp only[SR,S_] at hb
     exact⟨e,he,hb.1,hb.2⟩
    ·exact .inr this
  |succ j=>
   have:=xx E j o so (by simpa using ho) (by simpa using hs)
   rw[show k+(j+1)=k+1+j by omega]
   exact this
 |[],_::_,k,h,_,_,_,_,_=>by simp[wj] at h
 |_::_,[],k,h,_,_,_,_,_=>by simp[wj] at h
theorem fU {P:Program} {N:Nat} {ops:Array Oper}:∀ {l:List Oper} {sos:List SO},bo P N ops l sos=true->l.length=sos.length/\∀ (j:Nat) (o:Oper) (so:SO),l[j]?=some o->sos[j]?=some so->kr P N ops o so=true
 |[],[],_=>by simp
 |o'::l,H::sos,h=>by
  simp only[bo,SR] at h
  obtain⟨h1,h2⟩:=fU h.2
  refine⟨by simp[h1],fun j o so ho hs=> ?_⟩
  cases j with
  |zero=>simp at ho hs;subst ho hs;exact h.1
  |succ j=>exact h2 j o so (by simpa using ho) (by simpa using hs)
 |[],_::_,h=>by simp[bo] at h
 |_::_,[],h=>by simp[bo] at h
def yx (n:Nat) (r:Array Bool):List Nat:=(List.range n).filter fun i=> !r.getD i true
theorem D2 {n:Nat} (hi:i<n) (hs:r.size=n) (hl:r.getD i true=false):(yx n (r.setIfInBounds i true)).length+1=(yx n r).length:=by
 have h5:i∈yx n r:=by simp only[yx,U3,TN,hi,hl,Tm,and_self]
 have r6:(yx n r).Nodup:=List.Pairwise.filter _ List.nodup_range
 have B:yx n (r.setIfInBounds i true)=(yx n r).erase i:=by
  rw[r6.erase_eq_filter]
  unfold yx
  rw[List.filter_filter]
  apply List.filter_congr
  intro j hj
  by_cases f:i=j
  ·subst f
   simp[hs,hi]
  ·rw[getD_set_ne true f]
   simp[Ne.symm f]
 rw[B,List.length_erase_of_mem h5]
 have:=List.length_pos_of_mem h5
 omega
theorem vh {o:Oper} (hc:∀ (i:Nat) o,r.getD i false=true->ops[i]?=some o->∀ e∈o.after,Region.binds .any e=true->r.getD e.on false=true) (ho:ops[j]?=some o) (h9:∀ e∈o.after,Region.binds .any e=true->r.getD e.on false=true) (hj:j<r.size):
  ∀ (i:Nat) o,(r.setIfInBounds j true).getD i false=true->ops[i]?=some o->∀ e∈o.after,Region.binds .any e=true->(r.setIfInBounds j true).getD e.on false=true:=by
 have mono:∀ k,r.getD k false=true->(r.setIfInBounds j true).getD k false=true:=fun k hk=>by
  by_cases b:j=k
  ·subst b;simp[hj]
  ·rw[getD_set_ne false b];exact hk
 intro i o' hi ho' e he hb
 by_cases f:j=i
 ·subst f
  rw[ho] at ho';cases ho'
  exact mono _ (h9 e he hb)
 ·rw[getD_set_ne false f] at hi
  exact mono _ (hc i o' hi ho' e he hb)
section
variable {P:Program} {c:Cx}
theorem Js (hQ:∀ O N h7 a' w',cW c O N h7 a' w'->K O->Q .normal a' w') (Z:bo P c.N ops ops.toList sos=true) (r6:Fu sos=some J) (hn:J.Nodup) (n:wj ops J 0 ops.toList sos=true) (v6:b.length=sos.length) (k:∀ (j:Nat) so v,sos[j]?=some so->b[j]?=some v->YS P h so (yX J b s0 (fun i=>decide (i<j))) v) (hK:K ⟨yX J b s0 (fun i=>decide (i<J.length)),h⟩):
  ∀ (u:Nat) (r:Array Bool) (κ:Nat->Value) (φ:Nat->List Nat) (a:Act) (w:World),r.size=ops.size->(yx ops.size r).length=u->(∀ (i:Nat) o,r.getD i false=true->ops[i]?=some o->∀ e∈o.after,Region.binds .any e=true->r.getD e.on false=true)->cW c ⟨yX J b s0 (fun i=>r.getD i false),h⟩ κ φ a w->
   wpAny P .any ops Q u r a w:=by
 obtain⟨s3,v2⟩:=fU Z
 obtain⟨qa,f⟩:=Am r6
 have I:J.length=ops.size:=by simp at s3;omega
 have fin:∀ (r:Array Bool) (κ:Nat->Value) (φ:Nat->List Nat) (a:Act) (w:World),r.size=ops.size->cW c ⟨yX J b s0 (fun i=>r.getD i false),h⟩ κ φ a w->Region.ready .any ops r=[]->Q .normal a w:=by
  intro r κ φ a w L D m
  have all:∀ j,j<ops.size->r.getD j false=true:=by
   intro j
   induction j using Nat.strongRecOn with
   |_ j ih=>
    intro hj
    by_cases hl:r.getD j true=false
    ·exfalso
     have ho:ops[j]?=some ops[j]:=Uj hj
     have B:∃ so,sos[j]?=some so:=⟨_,S0 (by simp at s3;omega)⟩
     obtain⟨so,B⟩:=B
     have hx:=xx n j ops[j] so oS B
     have:j∈Region.ready .any ops r:=mem_ready.2 ⟨hl,ops[j],ho,fun e he hb=>ih e.on (by have:=hx.1 e he hb;omega) (by have:=hx.1 e he hb;omega)⟩
     rw[m] at this;simp at this
    ·have r3:j<r.size:=by omega
     simp[r3] at hl⊢
     exact hl
  refine hQ _ _ _ _ _ D ?_
  have:yX J b s0 (fun i=>r.getD i false)=yX J b s0 (fun i=>decide (i<J.length)):=by
   funext t
   unfold yX
   cases hi:J.idxOf? t with
   |none=>rfl
   |some i=>
    have X:i<J.length:=(SY.1 (CT hi)).1
    have h1:=all i oM
    simp only[h1,X,TA]
  rw[this];exact hK
 intro u
 induction u with
 |zero=>
  intro r κ φ a w L hu _ D
  have m:Region.ready .any ops r=[]:=by
   cases A:Region.ready .any ops r with
   |nil=>rfl
   |cons i l=>
    exfalso
    have hi:i∈Region.ready .any ops r:=by rw[A];simp
    obtain⟨h0,o,ho,_⟩:=mem_ready.1 hi
    have:i∈yx ops.size r:=by simp only[yx,U3,TN,h0,Tm,and_true];exact(Ts.1 ho).1
    rw[Ta.1 hu] at this;simp at this
  exact⟨m,fin r κ φ a w L D m⟩
 |succ u ih=>
  intro r κ φ a w L hu h6 D
  refine⟨fin r κ φ a w L D,fun j hj=> ?_⟩
  obtain⟨h0,o,ho,h9⟩:=mem_ready.1 hj
  have v4:j<ops.size:=(Ts.1 ho).1
  have B:∃ so,sos[j]?=some so:=⟨_,S0 (by simp at s3;omega)⟩
  obtain⟨so,B⟩:=B
  have hv:∃ v,b[j]?=some v:=⟨_,S0 (by have:=(SY.1 B).1;omega)⟩
  obtain⟨v,hv⟩:=hv
  obtain⟨d,hd,q⟩:=f j so B
  have hx:=xx n j o so (by simpa using ho) B
  have hy:YS P h so (yX J b s0 (fun i=>r.getD i false)) v:=by
   refine wi (G6 fun t ht=> ?_) (k j so v B hv)
   unfold yX
   cases hi:J.idxOf? t with
   |none=>rfl
   |some i=>
    rcases hx.2 t ht i hi with⟨h1,e,he,hb,g⟩|⟨h1,h2⟩
    ·have h2:=h9 e he hb
     rw[g] at h2
     have E:i<j:=by omega
     simp only[h2,E,TA]
    ·have u0:r.getD j false=false:=by
      simp only[TH] at h0⊢
      have:j<r.size:=by omega
      simpa[this] using h0
     have E:¬ i<j:=by omega
     have h4:r.getD i false=false:=by
      rcases h2 with rfl|h2
      ·simpa using u0
      ·rw[Tx] at h2
       cases w3:r.getD i false with
       |false=>rfl
       |true=>
        have:=i1 h6 i [i] (by simpa using w3) h2
        rw[u0] at this;cases this
     simp only[E,h4,UO,Tb,Tq]
  have qn:=CS q hy
  have qb:=v2 j o so (by simpa using ho) B
  unfold wpOp
  simp only[ho]
  refine wm D qb qn fun O N h7 a' w' h8 hk=> ?_
  subst hk
  have w3:(yx ops.size (r.setIfInBounds j true)).length=u:=by
   have:=D2 v4 L h0
   omega
  refine ih (r.setIfInBounds j true) N h7 a' w' (by simp[L]) w3 ?_ ?_
  ·exact vh h6 ho h9 oM
  have:yX J b s0 (fun i=>(r.setIfInBounds j true).getD i false)=am (yX J b s0 (fun i=>r.getD i false)) d v:=by
   rw[H7 hn hd hv]
   congr 1
   funext i
   by_cases r0:j=i
   ·subst r0;simp[L,v4]
   ·rw[getD_set_ne false r0];simp[Ne.symm r0]
  rw[this];exact h8
theorem Fv (l:P.follows .mixedOrders=true) {id:Nat} {σ:St} {κ:Nat->Value} {φ:Nat->List Nat} {a:Act} {w:World} (hQ:∀ O N h7 a' w',cW c O N h7 a' w'->K O->Q .normal a' w') (Z:bo P c.N ops ops.toList sos=true) (r6:Fu sos=some J) (hn:J.Nodup) (n:wj ops J 0 ops.toList sos=true) (D:cW c σ κ φ a w) (h:aD P K sos σ):
  (Code.region id ops true).wp P Q a w:=by
 obtain⟨s3,v2⟩:=fU Z
 obtain⟨qa,f⟩:=Am r6
 have h0:∀ b:List SV,yX J b σ.s (fun _=>false)=σ.s:=fun b=>by
  funext t;unfold yX;cases J.idxOf? t<;>simp
 obtain⟨b,v6,k,hK⟩:=O7 (P:=P) (K:=K) (h:=σ.h) (s0:=σ.s) hn sos 0 [] rfl (fun j so hj=>by simpa using f j so hj) (by simpa using qa.symm) (by
  have:(fun i:Nat=>decide (i<0))=fun _=>false:=by funext i;simp
  rw[this,h0];exact h)
 simp only[S8,Tx] at k hK
 refine wp_region_any l (Js (c:=c) hQ Z r6 hn n v6 k hK ops.size _ κ φ a _ oS ?_ ?_ ?_)
 ·have:yx ops.size (Array.replicate ops.size false)=List.range ops.size:=by
   unfold yx
   rw[List.filter_eq_self]
   intro i hi
   simp at hi
   simp[hi]
  rw[this];simp
 ·intro i o hi
  by_cases X:i<ops.size<;>simp[X] at hi
 ·have:(fun i:Nat=>(Array.replicate ops.size false).getD i false)=fun _=>false:=by
   funext i
   by_cases hi:i<ops.size<;>simp[hi]
  rw[this,h0]
  exact D.grown ((Below.refl _ _).drew)
end
end Go.Proofs.YtgmnipfafmphaaaGreatDoor

