/-
  My text.
-/
import Derived.Test.YtgocgdgknpdknaaGreatDoorSXEngQ
namespace Go.Proofs.YtgocgdgknpdknaaGreatDoor
set_option linter.unusedVariables false
open Go.RowKit
def o7:qK->List SX
 | .mv x=>[x]
 | .pick c a b=>[c,a,b]
 | .boxI x=>[x]
 | .ld1 x=>[x]
 | .ldA _ x=>[x]
 | .fld _ x=>[x]
 | .prt1 _ x=>[x]
 | .prtA _ _ x=>[x]
 | .idx _ x i=>[x,i]
 | .sidx x i=>[x,i]
 | .vidx _ x i=>[x,i]
 | .bin _ x y=>[x,y]
 | .binB _ x y=>[x,y]
 | .binI _ x y=>[x,y]
 | .binP _ x y=>[x,y]
 | .not x=>[x]
 | .neg x=>[x]
 | .cvi _ x=>[x]
 | .ext x _=>[x]
 | .len x=>[x]
 | .lenT x=>[x]
 | .lenM x=>[x]
 | .mins x xs=>x::xs
 | .maxs x xs=>x::xs
 | .mkfn _ xs=>xs
 | .build _ ps=>ps.map (·.2.2)
 | .bslice _ xs=>xs
 | .slc _ x lo hi=>x::(lo.toList++hi.toList)
 | .sslc x lo hi=>x::(lo.toList++hi.toList)
 | .look _ _ _ m k=>[m,k]
 | .eqs _ _ x y=>[x,y]
 | .nilc x=>[x]
 | .gd _ _ _=>[]
 | .aidx _ _ x i=>[x,i]
 | .slcP _ x i=>[x,i]
 | .slc3 _ x lo hi mx=>x::hi::mx::lo.toList
 | .cvis x=>[x]
 | .cvbs x=>[x]
 | .cvsb x=>[x]
 | .cl t ts=> .t t::ts.map .t
theorem xu {s s':Nat->SV} {xs:List SX} (h:∀ x∈xs,ev s x=ev s' x):xs.map (ev s)=xs.map (ev s'):=K_ h
theorem pw {s s':Nat->SV} {x:Option SX} (h:∀ y∈x.toList,ev s y=ev s' y):Ar s x=Ar s' x:=by
 cases x with
 |none=>rfl
 |some y=>simp only[Ar,h y oS]
theorem xv {h:Nat->Ch} {s s':Nat->SV} {op:qK} (hx:∀ x∈o7 op,ev s x=ev s' x):rd h s op=rd h s' op:=by
 cases op with
 |cl t ts=>
  have h1:s t=s' t:=hx (.t t) (by simp[o7])
  have h2:∀ l:List Nat,(∀ n∈l,s n=s' n)->kh s l=kh s' l:=fun l=>by
   induction l with
   |nil=>intro _;rfl
   |cons n l ih=>intro h;simp only[kh,h n oS,ih fun m hm=>h m (by simp[hm])]
  simp only[rd,h1,h2 ts fun n hn=>hx (.t n) (by simp[o7,hn])]
 |mins x xs=>simp only[rd,hx x (by simp[o7]),xu (xs:=xs) fun y hy=>hx y (by simp[o7,hy])]
 |maxs x xs=>simp only[rd,hx x (by simp[o7]),xu (xs:=xs) fun y hy=>hx y (by simp[o7,hy])]
 |mkfn f xs=>simp only[rd,xu (xs:=xs) fun y hy=>hx y (by simpa[o7] using hy)]
 |bslice sz xs=>simp only[rd,xu (xs:=xs) fun y hy=>hx y (by simpa[o7] using hy)]
 |build zs ps=>
  have:(ps.map fun p=>(p.1,p.2.1,ev s p.2.2))=ps.map fun p=>(p.1,p.2.1,ev s' p.2.2):=K_ fun p hp=>by
   rw[hx p.2.2 (by simp only[o7,Kw];exact⟨p,hp,rfl⟩)]
  simp only[rd,this]
 |slc sz x lo hi=>simp only[rd,hx x (by simp[o7]),pw (x:=lo) fun y hy=>hx y (by simp[o7];simp at hy;simp[hy]),pw (x:=hi) fun y hy=>hx y (by simp[o7];simp at hy;simp[hy])]
 |sslc x lo hi=>simp only[rd,hx x (by simp[o7]),pw (x:=lo) fun y hy=>hx y (by simp[o7];simp at hy;simp[hy]),pw (x:=hi) fun y hy=>hx y (by simp[o7];simp at hy;simp[hy])]
 |pick c b d=>simp only[o7,J2,KD,or_false,forall_eq_or_imp,forall_eq] at hx;obtain⟨h1,h2,h3⟩:=hx;simp only[rd,h1,h2,h3]
 |idx sz x i=>simp only[o7,J2,KD,or_false,forall_eq_or_imp,forall_eq] at hx;obtain⟨h1,h2⟩:=hx;simp only[rd,h1,h2]
 |aidx sz n x i=>simp only[o7,J2,KD,or_false,forall_eq_or_imp,forall_eq] at hx;obtain⟨h1,h2⟩:=hx;simp only[rd,h1,h2]
 |slcP n x i=>simp only[o7,J2,KD,or_false,forall_eq_or_imp,forall_eq] at hx;obtain⟨h1,h2⟩:=hx;simp only[rd,h1,h2]
 |slc3 sz x lo hi mx=>simp only[rd,hx x (by simp[o7]),hx hi (by simp[o7]),hx mx (by simp[o7]),pw (x:=lo) fun y hy=>hx y (by simp[o7];simp at hy;simp[hy])]
 |vidx n x i=>simp only[o7,J2,KD,or_false,forall_eq_or_imp,forall_eq] at hx;obtain⟨h1,h2⟩:=hx;simp only[rd,h1,h2]
 |sidx x i=>simp only[o7,J2,KD,or_false,forall_eq_or_imp,forall_eq] at hx;obtain⟨h1,h2⟩:=hx;simp only[rd,h1,h2]
 |bin o x i=>simp only[o7,J2,KD,or_false,forall_eq_or_imp,forall_eq] at hx;obtain⟨h1,h2⟩:=hx;simp only[rd,h1,h2]
 |binB o x i=>simp only[o7,J2,KD,or_false,forall_eq_or_imp,forall_eq] at hx;obtain⟨h1,h2⟩:=hx;simp only[rd,h1,h2]
 |eqs o kks x i=>simp only[o7,J2,KD,or_false,forall_eq_or_imp,forall_eq] at hx;obtain⟨h1,h2⟩:=hx;simp only[rd,h1,h2]
 |look kk z ok x i=>simp only[o7,J2,KD,or_false,forall_eq_or_imp,forall_eq] at hx;obtain⟨h1,h2⟩:=hx;simp only[rd,h1,h2]
 |binI o x i=>simp only[o7,J2,KD,or_false,forall_eq_or_imp,forall_eq] at hx;obtain⟨h1,h2⟩:=hx;simp only[rd,h1,h2]
 |binP o x i=>simp only[o7,J2,KD,or_false,forall_eq_or_imp,forall_eq] at hx;obtain⟨h1,h2⟩:=hx;simp only[rd,h1,h2]
 |gd _ _ _=>rfl
 |_=>simp only[o7,J2,KD,or_false,forall_eq] at hx;simp only[rd,hx]
def ER:SO->List SX
 | .r _ op=>o7 op
 | .c _ f args=>f::args
 | .w _ _=>[]
 | .o _ _=>[]
 | .p _ _ _=>[]
 | .x _ _ _=>[]
 | .q _ _ _ _=>[]
 | .g t _ _ o=> .t t::ER o
def CT:List SX->List Nat:=List.filterMap fun| .t n=>some n|_=>none
theorem B_ {s s':Nat->SV} {xs:List SX} (h:∀ t∈CT xs,s t=s' t):∀ x∈xs,ev s x=ev s' x:=by
 intro x hx
 cases x with
 |t n=>exact h n (List.mem_filterMap.2 ⟨.t n,hx,rfl⟩)
 |c v=>rfl
 |f i=>rfl
def YS (P:Program) (h:Nat->Ch):SO->(Nat->SV)->SV->Prop
 | .r _ op,s,v=>∃ p,rd h s op=some (p,v)/\p
 | .c _ f args,s,v=>match ev s f,SV.lends h (args.map (ev s)) with
  | .d (.fn fid caps),some as=>∃ res,aa P fid (as++caps) res/\((SV.toDVs (args.map (ev s))).isSome=true\/res.flat=true)/\v= .d res
  |_,_=>False
 | .w _ _,_,_=>False
 | .o _ _,_,_=>False
 | .p _ _ _,_,_=>False
 | .x _ _ _,_,_=>False
 | .q _ _ _ _,_,_=>False
 | .g t want _ o,s,v=>(∃ b,s t= .d (.bool b)/\((b=want/\YS P h o s v)\/(b= !want/\v= .d (.tup []))))\/(s t= .d (.tup [])/\v= .d (.tup []))
theorem xw {P:Program} {h:Nat->Ch} {s s':Nat->SV} {v:SV}:∀ {so:SO},(∀ x∈ER so,ev s x=ev s' x)->YS P h so s v->YS P h so s' v
 | .r _ op,hx,hy=>by
  simp only[YS] at *
  rw[<-xv (h:=h) (s:=s) (s':=s') hx];exact hy
 | .c _ f args,hx,hy=>by
  simp only[YS] at *
  rw[<-hx f (by simp[ER]),<-xu (xs:=args) fun y hy=>hx y (by simp[ER,hy])];exact hy
 | .w _ _,hx,hy=>hy.elim
 | .o _ _,hx,hy=>hy.elim
 | .p _ _ _,hx,hy=>hy.elim
 | .x _ _ _,hx,hy=>hy.elim
 | .q _ _ _ _,hx,hy=>hy.elim
 | .g t want dst o,hx,hy=>by
  simp only[YS] at *
  have ht:s t=s' t:=hx (.t t) (by simp[ER])
  rcases hy with⟨b,hb,hc⟩|⟨hu,hv⟩
  case inr=>exact .inr ⟨by rw[<-ht];exact hu,hv⟩
  refine .inl ⟨b,by rw[<-ht];exact hb,hc.imp (fun⟨h1,h2⟩=>⟨h1,xw (fun x hx'=>hx x (by simp[ER,hx'])) h2⟩) id⟩
def hJ:SO->Option Nat
 | .r d _=>some d
 | .c d _ _=>some d
 | .w _ _=>none
 | .o _ _=>none
 | .p _ _ _=>none
 | .x _ _ _=>none
 | .q _ _ _ _=>none
 | .g _ _ d o=>match hJ o with|some e=>if d=some e then some e else none|none=>none
theorem AQ {P:Program} {K:St->Prop} {σ:St}:∀ {so:SO} {d:Nat},hJ so=some d->AO P so σ K->∃ v,YS P σ.h so σ.s v/\K ⟨aI σ.s d v,σ.h⟩
 | .r e op,d,hd,h=>by
  simp only[hJ,JN] at hd;subst hd
  simp only[AO] at h
  split at h
  ·rename_i p v hrd;exact⟨v,⟨p,hrd,h.1⟩,h.2⟩
  ·exact h.elim
 | .c e f args,d,hd,h=>by
  simp only[hJ,JN] at hd;subst hd
  simp only[AO] at h
  split at h
  ·rename_i fid caps as h1 h2
   obtain⟨res,hs,hf,hk⟩:=h
   refine⟨.d res, ?_,hk⟩
   simp only[YS,h1,h2]
   exact⟨res,hs,hf,rfl⟩
  ·exact h.elim
 | .w _ _,d,hd,h=>by simp[hJ] at hd
 | .o _ _,d,hd,h=>by simp[hJ] at hd
 | .p _ _ _,d,hd,h=>by simp[hJ] at hd
 | .x _ _ _,d,hd,h=>by simp[hJ] at hd
 | .q _ _ _ _,d,hd,h=>by simp[hJ] at hd
 | .g t want e o,d,hd,h=>by
  simp only[hJ] at hd
  split at hd
  ·rename_i e' he'
   split at hd
   ·rename_i hee
    simp only[JN] at hd
    subst hd hee
    simp only[AO] at h
    split at h
    ·rename_i b hb
     by_cases hw:b=want
     ·obtain⟨v,hv,hk⟩:=AQ he' (h.1 hw)
      exact⟨v,.inl ⟨b,hb,.inl ⟨hw,hv⟩⟩,hk⟩
     ·have hw':b= !want:=by cases b<;>cases want<;>simp_all
      exact⟨.d (.tup []),.inl ⟨b,hb,.inr ⟨hw',rfl⟩⟩,h.2 hw'⟩
    ·rename_i hu
     exact⟨.d (.tup []),.inr ⟨hu,rfl⟩,h⟩
    ·exact h.elim
   ·cases hd
  ·cases hd
theorem AR {P:Program} {h:Nat->Ch} {s:Nat->SV} {v:SV}:∀ {so:SO} {d:Nat},hJ so=some d->YS P h so s v->AO P so ⟨s,h⟩ (· =⟨aI s d v,h⟩)
 | .r e op,d,hd,hy=>by
  simp only[hJ,JN] at hd;subst hd
  simp only[YS] at hy
  obtain⟨p,hrd,hp⟩:=hy
  simp only[AO,hrd]
  exact⟨hp,trivial⟩
 | .c e f args,d,hd,hy=>by
  simp only[hJ,JN] at hd;subst hd
  simp only[YS] at hy
  simp only[AO]
  split at hy
  ·rename_i fid caps as h1 h2
   obtain⟨res,hs,hf,rfl⟩:=hy
   (try simp only[h1,h2])
   exact⟨res,hs,hf,rfl⟩
  ·exact hy.elim
 | .w _ _,d,hd,hy=>by simp[hJ] at hd
 | .o _ _,d,hd,hy=>by simp[hJ] at hd
 | .p _ _ _,d,hd,hy=>by simp[hJ] at hd
 | .x _ _ _,d,hd,hy=>by simp[hJ] at hd
 | .q _ _ _ _,d,hd,hy=>by simp[hJ] at hd
 | .g t want e o,d,hd,hy=>by
  simp only[hJ] at hd
  split at hd
  ·rename_i e' he'
   split at hd
   ·rename_i hee
    simp only[JN] at hd
    subst hd hee
    simp only[YS] at hy
    rcases hy with⟨b,hb,hc⟩|⟨hu,rfl⟩
    case inr=>simp only[AO,hu,putS]
    simp only[AO,hb]
    refine⟨fun hw=> ?_,fun hw=> ?_⟩
    ·rcases hc with⟨_,hv⟩|⟨h1,_⟩
     ·exact AR he' hv
     ·subst hw;cases b<;>simp at h1
    ·rcases hc with⟨h1,_⟩|⟨_,rfl⟩
     ·subst h1;cases b<;>simp at hw
     ·simp[putS]
   ·cases hd
  ·cases hd
def AU:List SO->Option (List Nat)
 |[]=>some []
 |o::l=>match hJ o,AU l with
  |some d,some ds=>some (d::ds)
  |_,_=>none
def wt (ds:List Nat) (vals:List SV) (s0:Nat->SV) (S:Nat->Bool):Nat->SV:=fun t=>
 match ds.idxOf? t with
 |some i=>if S i then vals.getD i (.d .any) else s0 t
 |none=>s0 t
theorem DO {ds:List Nat} (hn:ds.Nodup) {i:Nat} {d:Nat} (h:ds[i]?=some d):ds.idxOf? d=some i:=by
 induction ds generalizing i with
 |nil=>simp at h
 |cons e ds ih=>
  simp only[K8] at hn
  cases i with
  |zero=>simp at h;subst h;simp[List.idxOf?_cons]
  |succ i=>
   simp at h
   have hne:e≠d:=fun he=>hn.1 (he▸JU h)
   rw[List.idxOf?_cons]
   simp[hne,ih hn.2 h]
theorem yU {ds:List Nat} {i:Nat} {d:Nat} (h:ds.idxOf? d=some i):ds[i]?=some d:=by
 induction ds generalizing i with
 |nil=>simp at h
 |cons e ds ih=>
  rw[List.idxOf?_cons] at h
  split at h
  ·rename_i he;simp at h;subst h;simp at he;simp[he]
  ·simp only[Option.map_eq_some_iff] at h
   obtain⟨j,hj,rfl⟩:=h
   simpa using ih hj
theorem CU {ds:List Nat} {vals:List SV} {s0:Nat->SV} {S:Nat->Bool} {j d:Nat} {v:SV} (hn:ds.Nodup) (hd:ds[j]?=some d) (hv:vals[j]?=some v):
  aI (wt ds vals s0 S) d v=wt ds vals s0 (fun i=>S i||i==j):=by
 funext t
 by_cases ht:t=d
 ·subst ht
  simp[am,wt,DO hn hd,List.getD,hv]
 ·rw[bd _ _ _ _ ht]
  unfold wt
  cases hi:ds.idxOf? t with
  |none=>rfl
  |some i=>
   have hne:i≠j:=fun e=>by
    subst e
    have:=yU hi
    rw[hd] at this;simp at this;exact ht this.symm
   simp[hne]
theorem xx:∀ {sos:List SO} {ds:List Nat},AU sos=some ds->ds.length=sos.length/\∀ (j:Nat) (so:SO),sos[j]?=some so->∃ d,ds[j]?=some d/\hJ so=some d
 |[],ds,h=>by simp only[AU,JN] at h;subst h;simp
 |o::l,ds,h=>by
  simp only[AU] at h
  split at h
  ·rename_i d ds' h1 h2
   simp only[JN] at h;subst h
   obtain⟨h3,h4⟩:=xx h2
   refine⟨by simp[h3],fun j so hj=> ?_⟩
   cases j with
   |zero=>simp at hj;subst hj;exact⟨d,by simp,h1⟩
   |succ j=>simpa using h4 j so (by simpa using hj)
  ·cases h
theorem Hs {P:Program} {K:St->Prop} {h:Nat->Ch} {s0:Nat->SV} {ds:List Nat} (hn:ds.Nodup):∀ (sos:List SO) (k:Nat) (vals:List SV),vals.length=k->(∀ (j:Nat) (so:SO),sos[j]?=some so->∃ d,ds[k+j]?=some d/\hJ so=some d)->k+sos.length=ds.length->
  aR P K sos ⟨wt ds vals s0 (fun i=>decide (i<k)),h⟩->
  ∃ more:List SV,more.length=sos.length/\(∀ (j:Nat) (so:SO) (v:SV),sos[j]?=some so->more[j]?=some v->YS P h so (wt ds (vals++more) s0 (fun i=>decide (i<k+j))) v)/\K ⟨wt ds (vals++more) s0 (fun i=>decide (i<ds.length)),h⟩
 |[],k,vals,hk,hd,hl,ha=>by
  refine⟨[],rfl,by simp, ?_⟩
  simp only[JX,Lg] at hl
  simp only[Ka]
  rw[<-hl];exact ha
 |so::sos,k,vals,hk,hd,hl,ha=>by
  simp only[aR] at ha
  obtain⟨d,hd1,hd2⟩:=hd 0 so oS
  simp only[Lg] at hd1
  obtain⟨v,hv,ha'⟩:=AQ hd2 ha
  have pre:∀ (l:List SV) (n:Nat),n<=k->wt ds (vals++l) s0 (fun i=>decide (i<n))=wt ds vals s0 (fun i=>decide (i<n)):=fun l n hn'=>by
   funext t
   unfold wt
   cases ds.idxOf? t with
   |none=>rfl
   |some i=>
    by_cases hi:i<n
    ·simp[hi,List.getD,List.getElem?_append_left (show i<vals.length by omega)]
    ·simp[hi]
  have step:aI (wt ds vals s0 (fun i=>decide (i<k))) d v=wt ds (vals++[v]) s0 (fun i=>decide (i<k+1)):=by
   rw[<-pre [v] k (JW _),CU hn hd1 (v:=v) (by rw[K5 oM];simp[hk])]
   congr 1
   funext i
   by_cases h1:i<k
   ·simp[h1,show i<k+1 by omega]
   ·by_cases h2:i=k
    ·subst h2;simp
    ·simp[h1,h2,show¬ i<k+1 by omega]
  simp only[step] at ha'
  obtain⟨more,hm1,hm2,hm3⟩:=Hs hn sos (k+1) (vals++[v]) (by simp[hk]) (fun j so' hj=>by
   have:=hd (j+1) so' (by simpa using hj)
   rw[show k+1+j=k+(j+1) by omega];exact this) (by simp only[JT] at hl;omega) ha'
  refine⟨v::more,by simp[hm1],fun j so' v' hj hv'=> ?_,by simpa using hm3⟩
  cases j with
  |zero=>
   simp at hj hv'
   subst hj hv'
   rw[Lg,pre _ k (JW _)]
   exact hv
  |succ j=>
   have:=hm2 j so' v' (by simpa using hj) (by simpa using hv')
   rw[show k+(j+1)=k+1+j by omega]
   simpa using this
def back (all:Array Oper) (j:Nat):Nat->List Nat->Bool
 |0,S=>S.contains j
 |k+1,S=>back all j k (if S.contains (k+1) then match all[k+1]? with|some o=>S++((o.after.toList.filter (Region.binds .any)).map (·.on))|none=>S else S)
theorem jz {all:Array Oper} {j:Nat} {listed:Array Bool} (hc:∀ (i:Nat) o,listed.getD i false=true->all[i]?=some o->∀ e∈o.after,Region.binds .any e=true->listed.getD e.on false=true):
  ∀ (k:Nat) (S:List Nat),(∀ x∈S,listed.getD x false=true)->back all j k S=true->listed.getD j false=true
 |0,S,hS,hb=>hS j (by simpa[back] using hb)
 |k+1,S,hS,hb=>by
  simp only[back] at hb
  refine jz hc k _ ?_ hb
  intro x hx
  split at hx
  ·rename_i hk
   split at hx
   ·rename_i o ho
    rcases Kc.1 hx with hx|hx
    ·exact hS x hx
    ·obtain⟨e,he,rfl⟩:=Kw.1 hx
     obtain⟨he,hb'⟩:=Lv.1 he
     exact hc (k+1) o (hS _ (by simpa using hk)) ho e (by simpa using he) hb'
   ·exact hS x hx
  ·exact hS x hx
def ud (all:Array Oper) (ds:List Nat):Nat->List Oper->List SO->Bool
 |_,[],[]=>true
 |j,o::ops,so::sos=>o.after.all (fun e=> !Region.binds .any e||decide (e.on<j))&&
   (CT (ER so)).all (fun t=>match ds.idxOf? t with|some i=>(decide (i<j)&&o.after.any (fun e=>Region.binds .any e&&e.on==i))||(decide (j<=i)&&(i==j||back all j i [i]))|none=>true)&&ud all ds (j+1) ops sos
 |_,_,_=>false
theorem uZ {all:Array Oper} {ds:List Nat}:∀ {ops:List Oper} {sos:List SO} {k:Nat},ud all ds k ops sos=true->∀ (j:Nat) (o:Oper) (so:SO),ops[j]?=some o->sos[j]?=some so->
  (∀ e∈o.after,Region.binds .any e=true->e.on<k+j)/\∀ t∈CT (ER so),∀ i,ds.idxOf? t=some i->(i<k+j/\∃ e∈o.after,Region.binds .any e=true/\e.on=i)\/(k+j<=i/\(i=k+j\/back all (k+j) i [i]=true))
 |[],[],k,h,j,o,so,ho,hs=>by simp at ho
 |o'::ops,so'::sos,k,h,j,o,so,ho,hs=>by
  simp only[ud,JO] at h
  obtain⟨⟨h1,h2⟩,h3⟩:=h
  cases j with
  |zero=>
   simp at ho hs
   subst ho hs
   refine⟨fun e he hb=> ?_,fun t ht i hi=> ?_⟩
   ·have:=Array.all_eq_true_iff_forall_mem.1 h1 e he
    simpa[hb] using this
   ·have:=Ke.1 h2 t ht
    simp only[hi,J_,JO,JS,JV] at this
    rcases this with this|this
    ·refine .inl ⟨this.1, ?_⟩
     obtain⟨e,he,hb⟩:=Array.any_eq_true'.1 this.2
     simp only[JO,JV] at hb
     exact⟨e,he,hb.1,hb.2⟩
    ·exact .inr this
  |succ j=>
   have:=uZ h3 j o so (by simpa using ho) (by simpa using hs)
   rw[show k+(j+1)=k+1+j by omega]
   exact this
 |[],_::_,k,h,_,_,_,_,_=>by simp[ud] at h
 |_::_,[],k,h,_,_,_,_,_=>by simp[ud] at h
theorem ko {P:Program} {N:Nat} {ops:Array Oper}:∀ {l:List Oper} {sos:List SO},bg P N ops l sos=true->l.length=sos.length/\∀ (j:Nat) (o:Oper) (so:SO),l[j]?=some o->sos[j]?=some so->kr P N ops o so=true
 |[],[],_=>by simp
 |o'::l,so'::sos,h=>by
  simp only[bg,JO] at h
  obtain⟨h1,h2⟩:=ko h.2
  refine⟨by simp[h1],fun j o so ho hs=> ?_⟩
  cases j with
  |zero=>simp at ho hs;subst ho hs;exact h.1
  |succ j=>exact h2 j o so (by simpa using ho) (by simpa using hs)
 |[],_::_,h=>by simp[bg] at h
 |_::_,[],h=>by simp[bg] at h
def yV (n:Nat) (listed:Array Bool):List Nat:=(List.range n).filter fun i=> !listed.getD i true
theorem CV {n:Nat} {listed:Array Bool} {i:Nat} (hi:i<n) (hs:listed.size=n) (hl:listed.getD i true=false):(yV n (listed.setIfInBounds i true)).length+1=(yV n listed).length:=by
 have hmem:i∈yV n listed:=by simp only[yV,Lv,KO,hi,hl,Kt,and_self]
 have hnd:(yV n listed).Nodup:=List.Pairwise.filter _ List.nodup_range
 have heq:yV n (listed.setIfInBounds i true)=(yV n listed).erase i:=by
  rw[hnd.erase_eq_filter]
  unfold yV
  rw[List.filter_filter]
  apply List.filter_congr
  intro j hj
  by_cases hji:i=j
  ·subst hji
   simp[hs,hi]
  ·rw[getD_set_ne true hji]
   simp[Ne.symm hji]
 rw[heq,List.length_erase_of_mem hmem]
 have:=List.length_pos_of_mem hmem
 omega
theorem xy {ops:Array Oper} {listed:Array Bool} {j:Nat} {o:Oper} (hc:∀ (i:Nat) o,listed.getD i false=true->ops[i]?=some o->∀ e∈o.after,Region.binds .any e=true->listed.getD e.on false=true)
  (ho:ops[j]?=some o) (hedge:∀ e∈o.after,Region.binds .any e=true->listed.getD e.on false=true) (hj:j<listed.size):
  ∀ (i:Nat) o,(listed.setIfInBounds j true).getD i false=true->ops[i]?=some o->∀ e∈o.after,Region.binds .any e=true->(listed.setIfInBounds j true).getD e.on false=true:=by
 have mono:∀ k,listed.getD k false=true->(listed.setIfInBounds j true).getD k false=true:=fun k hk=>by
  by_cases hjk:j=k
  ·subst hjk;simp[hj]
  ·rw[getD_set_ne false hjk];exact hk
 intro i o' hi ho' e he hb
 by_cases hji:j=i
 ·subst hji
  rw[ho] at ho';cases ho'
  exact mono _ (hedge e he hb)
 ·rw[getD_set_ne false hji] at hi
  exact mono _ (hc i o' hi ho' e he hb)
section
variable {P:Program} {c:Cx}
theorem DP {ops:Array Oper} {sos:List SO} {ds:List Nat} {vals:List SV} {s0:Nat->SV} {h:Nat->Ch} {K:St->Prop} {Q:Exit->Act->World->Prop}
  (hQ:∀ σ' κ' φ' a' w',bT c σ' κ' φ' a' w'->K σ'->Q .normal a' w') (hm:bg P c.N ops ops.toList sos=true) (hds:AU sos=some ds) (hn:ds.Nodup) (hlex:ud ops ds 0 ops.toList sos=true) (hvl:vals.length=sos.length)
  (hys:∀ (j:Nat) so v,sos[j]?=some so->vals[j]?=some v->YS P h so (wt ds vals s0 (fun i=>decide (i<j))) v) (hK:K ⟨wt ds vals s0 (fun i=>decide (i<ds.length)),h⟩):
  ∀ (fuel:Nat) (listed:Array Bool) (κ:Nat->Value) (φ:Nat->List Nat) (a:Act) (w:World),listed.size=ops.size->(yV ops.size listed).length=fuel->(∀ (i:Nat) o,listed.getD i false=true->ops[i]?=some o->∀ e∈o.after,Region.binds .any e=true->listed.getD e.on false=true)->bT c ⟨wt ds vals s0 (fun i=>listed.getD i false),h⟩ κ φ a w->
   wpAny P .any ops Q fuel listed a w:=by
 obtain⟨hml,hmo⟩:=ko hm
 obtain⟨hdl,hdo⟩:=xx hds
 have hlen:ds.length=ops.size:=by simp at hml;omega
 have fin:∀ (listed:Array Bool) (κ:Nat->Value) (φ:Nat->List Nat) (a:Act) (w:World),listed.size=ops.size->bT c ⟨wt ds vals s0 (fun i=>listed.getD i false),h⟩ κ φ a w->Region.ready .any ops listed=[]->Q .normal a w:=by
  intro listed κ φ a w hls hr hready
  have all:∀ j,j<ops.size->listed.getD j false=true:=by
   intro j
   induction j using Nat.strongRecOn with
   |_ j ih=>
    intro hj
    by_cases hl:listed.getD j true=false
    ·exfalso
     have ho:ops[j]?=some ops[j]:=KU hj
     have hso:∃ so,sos[j]?=some so:=⟨_,J0 (by simp at hml;omega)⟩
     obtain⟨so,hso⟩:=hso
     have hx:=uZ hlex j ops[j] so oS hso
     have:j∈Region.ready .any ops listed:=mem_ready.2 ⟨hl,ops[j],ho,fun e he hb=>ih e.on (by have:=hx.1 e he hb;omega) (by have:=hx.1 e he hb;omega)⟩
     rw[hready] at this;simp at this
    ·have hj':j<listed.size:=by omega
     simp[hj'] at hl⊢
     exact hl
  refine hQ _ _ _ _ _ hr ?_
  have:wt ds vals s0 (fun i=>listed.getD i false)=wt ds vals s0 (fun i=>decide (i<ds.length)):=by
   funext t
   unfold wt
   cases hi:ds.idxOf? t with
   |none=>rfl
   |some i=>
    have hlt:i<ds.length:=(JY.1 (yU hi)).1
    have h1:=all i oM
    simp only[h1,hlt,Lo]
  rw[this];exact hK
 intro fuel
 induction fuel with
 |zero=>
  intro listed κ φ a w hls hu _ hr
  have hready:Region.ready .any ops listed=[]:=by
   cases hrd:Region.ready .any ops listed with
   |nil=>rfl
   |cons i l=>
    exfalso
    have hi:i∈Region.ready .any ops listed:=by rw[hrd];simp
    obtain⟨h0,o,ho,_⟩:=mem_ready.1 hi
    have:i∈yV ops.size listed:=by simp only[yV,Lv,KO,h0,Kt,and_true];exact(Kn.1 ho).1
    rw[J7.1 hu] at this;simp at this
  exact⟨hready,fin listed κ φ a w hls hr hready⟩
 |succ fuel ih=>
  intro listed κ φ a w hls hu hcl hr
  refine⟨fin listed κ φ a w hls hr,fun j hj=> ?_⟩
  obtain⟨h0,o,ho,hedge⟩:=mem_ready.1 hj
  have hjlt:j<ops.size:=(Kn.1 ho).1
  have hso:∃ so,sos[j]?=some so:=⟨_,J0 (by simp at hml;omega)⟩
  obtain⟨so,hso⟩:=hso
  have hv:∃ v,vals[j]?=some v:=⟨_,J0 (by have:=(JY.1 hso).1;omega)⟩
  obtain⟨v,hv⟩:=hv
  obtain⟨d,hd,hd2⟩:=hdo j so hso
  have hx:=uZ hlex j o so (by simpa using ho) hso
  have hy:YS P h so (wt ds vals s0 (fun i=>listed.getD i false)) v:=by
   refine xw (B_ fun t ht=> ?_) (hys j so v hso hv)
   unfold wt
   cases hi:ds.idxOf? t with
   |none=>rfl
   |some i=>
    rcases hx.2 t ht i hi with⟨h1,e,he,hb,he'⟩|⟨h1,h2⟩
    ·have h2:=hedge e he hb
     rw[he'] at h2
     have h3:i<j:=by omega
     simp only[h2,h3,Lo]
    ·have hnl:listed.getD j false=false:=by
      simp only[KY] at h0⊢
      have:j<listed.size:=by omega
      simpa[this] using h0
     have h3:¬ i<j:=by omega
     have h4:listed.getD i false=false:=by
      rcases h2 with rfl|h2
      ·simpa using hnl
      ·rw[KW] at h2
       cases hli:listed.getD i false with
       |false=>rfl
       |true=>
        have:=jz hcl i [i] (by simpa using hli) h2
        rw[hnl] at this;cases this
     simp only[h3,h4,Lh,Kg,KG]
  have hao:=AR hd2 hy
  have hmo':=hmo j o so (by simpa using ho) hso
  unfold wpOp
  simp only[ho]
  refine ug hr hmo' hao fun σ' κ' φ' a' w' hr' hk=> ?_
  subst hk
  have hli:(yV ops.size (listed.setIfInBounds j true)).length=fuel:=by
   have:=CV hjlt hls h0
   omega
  refine ih (listed.setIfInBounds j true) κ' φ' a' w' (by simp[hls]) hli ?_ ?_
  ·exact xy hcl ho hedge oM
  have:wt ds vals s0 (fun i=>(listed.setIfInBounds j true).getD i false)=aI (wt ds vals s0 (fun i=>listed.getD i false)) d v:=by
   rw[CU hn hd hv]
   congr 1
   funext i
   by_cases hij:j=i
   ·subst hij;simp[hls,hjlt]
   ·rw[getD_set_ne false hij];simp[Ne.symm hij]
  rw[this];exact hr'
theorem AV (hmix:P.follows .mixedOrders=true) {id:Nat} {ops:Array Oper} {sos:List SO} {ds:List Nat} {K:St->Prop} {Q:Exit->Act->World->Prop} {σ:St} {κ:Nat->Value} {φ:Nat->List Nat} {a:Act} {w:World}
  (hQ:∀ σ' κ' φ' a' w',bT c σ' κ' φ' a' w'->K σ'->Q .normal a' w') (hm:bg P c.N ops ops.toList sos=true) (hds:AU sos=some ds) (hn:ds.Nodup) (hlex:ud ops ds 0 ops.toList sos=true) (hr:bT c σ κ φ a w) (h:aR P K sos σ):
  (Code.region id ops true).wp P Q a w:=by
 obtain⟨hml,hmo⟩:=ko hm
 obtain⟨hdl,hdo⟩:=xx hds
 have h0:∀ vals:List SV,wt ds vals σ.s (fun _=>false)=σ.s:=fun vals=>by
  funext t;unfold wt;cases ds.idxOf? t<;>simp
 obtain⟨vals,hvl,hys,hK⟩:=Hs (P:=P) (K:=K) (h:=σ.h) (s0:=σ.s) hn sos 0 [] rfl (fun j so hj=>by simpa using hdo j so hj) (by simpa using hdl.symm) (by
  have:(fun i:Nat=>decide (i<0))=fun _=>false:=by funext i;simp
  rw[this,h0];exact h)
 simp only[Kd,KW] at hys hK
 refine wp_region_any hmix (DP (c:=c) hQ hm hds hn hlex hvl hys hK ops.size _ κ φ a _ oS ?_ ?_ ?_)
 ·have:yV ops.size (Array.replicate ops.size false)=List.range ops.size:=by
   unfold yV
   rw[LE]
   intro i hi
   simp at hi
   simp[hi]
  rw[this];simp
 ·intro i o hi
  by_cases hlt:i<ops.size<;>simp[hlt] at hi
 ·have:(fun i:Nat=>(Array.replicate ops.size false).getD i false)=fun _=>false:=by
   funext i
   by_cases hi:i<ops.size<;>simp[hi]
  rw[this,h0]
  exact hr.grown ((Below.refl _ _).drew)
end
