/-
  My text.
-/
import Derived.Test.YteaolfcegaidpaaGreatDoorSYEngQ
namespace Go.Proofs.YteaolfcegaidpaaGreatDoor
set_option linter.unusedSimpArgs false
set_option linter.unusedVariables false
open Go.RowKit
def rM:uk->List SX
 | .mv x=>[x]
 | .pick c a b=>[c,a,b]
 | .boxI x=>[x]
 | .ld1 x=>[x]
 | .ldA _ x=>[x]
 | .fld _ x=>[x]
 | .prt1 _ x=>[x]
 | .prtA _ _ x=>[x]
 | .idx _ x i=>[x,i]
 | .sidx x i=>[x,i]
 | .vidx _ x i=>[x,i]
 | .vidxA _ _ x i=>[x,i]
 | .bin _ x y=>[x,y]
 | .binB _ x y=>[x,y]
 | .binI _ x y=>[x,y]
 | .binP _ x y=>[x,y]
 | .not x=>[x]
 | .neg x=>[x]
 | .cvi _ x=>[x]
 | .ext x _=>[x]
 | .len x=>[x]
 | .lenT x=>[x]
 | .lenM x=>[x]
 | .mins x xs=>x::xs
 | .maxs x xs=>x::xs
 | .mkfn _ xs=>xs
 | .build _ ps=>ps.map (·.2.2)
 | .bslice _ xs=>xs
 | .slc _ x lo hi=>x::(lo.toList++hi.toList)
 | .sslc x lo hi=>x::(lo.toList++hi.toList)
 | .look _ _ _ m k=>[m,k]
 | .eqs _ _ x y=>[x,y]
 | .nilc x=>[x]
 | .gd _ _ _=>[]
 | .aidx _ _ x i=>[x,i]
 | .slcP _ x i=>[x,i]
 | .slc3 _ x lo hi mx=>x::hi::mx::lo.toList
 | .cvis x=>[x]
 | .cvbs x=>[x]
 | .cvsb x=>[x]
 | .cl t ts=> .t t::ts.map .t
theorem Bm {s s':Nat->SV} {xs:List SX} (h:∀ x∈xs,ev s x=ev s' x):xs.map (ev s)=xs.map (ev s'):=PM h
theorem sH {s s':Nat->SV} {x:Option SX} (h:∀ y∈x.toList,ev s y=ev s' y):Ey s x=Ey s' x:=by
 cases x with
 |none=>rfl
 |some y=>simp only[Ey,h y oS]
theorem Bn {h:Nat->Ch} {s s':Nat->SV} {op:uk} (hx:∀ x∈rM op,ev s x=ev s' x):rd h s op=rd h s' op:=by
 cases op with
 |cl t ts=>
  have h1:s t=s' t:=hx (.t t) (by simp[rM])
  have h2:∀ l:List Nat,(∀ n∈l,s n=s' n)->nm s l=nm s' l:=fun l=>by
   induction l with
   |nil=>intro _;rfl
   |cons n l ih=>intro h;simp only[nm,h n oS,ih fun m hm=>h m (by simp[hm])]
  simp only[rd,h1,h2 ts fun n hn=>hx (.t n) (by simp[rM,hn])]
 |mins x xs=>simp only[rd,hx x (by simp[rM]),Bm (xs:=xs) fun y hy=>hx y (by simp[rM,hy])]
 |maxs x xs=>simp only[rd,hx x (by simp[rM]),Bm (xs:=xs) fun y hy=>hx y (by simp[rM,hy])]
 |mkfn f xs=>simp only[rd,Bm (xs:=xs) fun y hy=>hx y (by simpa[rM] using hy)]
 |bslice sz xs=>simp only[rd,Bm (xs:=xs) fun y hy=>hx y (by simpa[rM] using hy)]
 |build zs ps=>
  have:(ps.map fun p=>(p.1,p.2.1,ev s p.2.2))=ps.map fun p=>(p.1,p.2.1,ev s' p.2.2):=PM fun p hp=>by
   rw[hx p.2.2 (by simp only[rM,Pd];exact⟨p,hp,rfl⟩)]
  simp only[rd,this]
 |slc sz x lo hi=>simp only[rd,hx x (by simp[rM]),sH (x:=lo) fun y hy=>hx y (by simp[rM];simp at hy;simp[hy]),sH (x:=hi) fun y hy=>hx y (by simp[rM];simp at hy;simp[hy])]
 |sslc x lo hi=>simp only[rd,hx x (by simp[rM]),sH (x:=lo) fun y hy=>hx y (by simp[rM];simp at hy;simp[hy]),sH (x:=hi) fun y hy=>hx y (by simp[rM];simp at hy;simp[hy])]
 |pick c b d=>simp only[rM,ON,Pv,or_false,forall_eq_or_imp,forall_eq] at hx;obtain⟨h1,h2,h3⟩:=hx;simp only[rd,h1,h2,h3]
 |idx sz x i=>simp only[rM,ON,Pv,or_false,forall_eq_or_imp,forall_eq] at hx;obtain⟨h1,h2⟩:=hx;simp only[rd,h1,h2]
 |aidx sz n x i=>simp only[rM,ON,Pv,or_false,forall_eq_or_imp,forall_eq] at hx;obtain⟨h1,h2⟩:=hx;simp only[rd,h1,h2]
 |slcP n x i=>simp only[rM,ON,Pv,or_false,forall_eq_or_imp,forall_eq] at hx;obtain⟨h1,h2⟩:=hx;simp only[rd,h1,h2]
 |slc3 sz x lo hi mx=>simp only[rd,hx x (by simp[rM]),hx hi (by simp[rM]),hx mx (by simp[rM]),sH (x:=lo) fun y hy=>hx y (by simp[rM];simp at hy;simp[hy])]
 |vidx n x i=>simp only[rM,ON,Pv,or_false,forall_eq_or_imp,forall_eq] at hx;obtain⟨h1,h2⟩:=hx;simp only[rd,h1,h2]
 |vidxA n w x i=>simp only[rM,ON,Pv,or_false,forall_eq_or_imp,forall_eq] at hx;obtain⟨h1,h2⟩:=hx;simp only[rd,h1,h2]
 |sidx x i=>simp only[rM,ON,Pv,or_false,forall_eq_or_imp,forall_eq] at hx;obtain⟨h1,h2⟩:=hx;simp only[rd,h1,h2]
 |bin o x i=>simp only[rM,ON,Pv,or_false,forall_eq_or_imp,forall_eq] at hx;obtain⟨h1,h2⟩:=hx;simp only[rd,h1,h2]
 |binB o x i=>simp only[rM,ON,Pv,or_false,forall_eq_or_imp,forall_eq] at hx;obtain⟨h1,h2⟩:=hx;simp only[rd,h1,h2]
 |eqs o kks x i=>simp only[rM,ON,Pv,or_false,forall_eq_or_imp,forall_eq] at hx;obtain⟨h1,h2⟩:=hx;simp only[rd,h1,h2]
 |look kk z ok x i=>simp only[rM,ON,Pv,or_false,forall_eq_or_imp,forall_eq] at hx;obtain⟨h1,h2⟩:=hx;simp only[rd,h1,h2]
 |binI o x i=>simp only[rM,ON,Pv,or_false,forall_eq_or_imp,forall_eq] at hx;obtain⟨h1,h2⟩:=hx;simp only[rd,h1,h2]
 |binP o x i=>simp only[rM,ON,Pv,or_false,forall_eq_or_imp,forall_eq] at hx;obtain⟨h1,h2⟩:=hx;simp only[rd,h1,h2]
 |gd _ _ _=>rfl
 |_=>simp only[rM,ON,Pv,or_false,forall_eq] at hx;simp only[rd,hx]
def Jj:SO->List SX
 | .r _ op=>rM op
 | .c _ f args=>f::args
 | .w _ _=>[]
 | .o _ _=>[]
 | .p _ _ _=>[]
 | .x _ _ _=>[]
 | .q _ _ _ _=>[]
 | .g t _ _ o=> .t t::Jj o
def GU:List SX->List Nat:=List.filterMap fun| .t n=>some n|_=>none
theorem Ge {s s':Nat->SV} {xs:List SX} (h:∀ t∈GU xs,s t=s' t):∀ x∈xs,ev s x=ev s' x:=by
 intro x hx
 cases x with
 |t n=>exact h n (List.mem_filterMap.2 ⟨.t n,hx,rfl⟩)
 |c v=>rfl
 |f i=>rfl
def YS (P:Program) (h:Nat->Ch):SO->(Nat->SV)->SV->Prop
 | .r _ op,s,v=>∃ p,rd h s op=some (p,v)/\p
 | .c _ f args,s,v=>match ev s f,SV.lends h (args.map (ev s)) with
  | .d (.fn fid caps),some as=>∃ res,aa P fid (as++caps) res/\((SV.toDVs (args.map (ev s))).isSome=true\/res.flat=true)/\v= .d res
  |_,_=>False
 | .w _ _,_,_=>False
 | .o _ _,_,_=>False
 | .p _ _ _,_,_=>False
 | .x _ _ _,_,_=>False
 | .q _ _ _ _,_,_=>False
 | .g t want _ o,s,v=>(∃ b,s t= .d (.bool b)/\((b=want/\YS P h o s v)\/(b= !want/\v= .d (.tup []))))\/(s t= .d (.tup [])/\v= .d (.tup []))
theorem Bo {P:Program} {h:Nat->Ch} {s s':Nat->SV} {v:SV}:∀ {so:SO},(∀ x∈Jj so,ev s x=ev s' x)->YS P h so s v->YS P h so s' v
 | .r _ op,hx,hy=>by
  simp only[YS] at *
  rw[<-Bn (h:=h) (s:=s) (s':=s') hx];exact hy
 | .c _ f args,hx,hy=>by
  simp only[YS] at *
  rw[<-hx f (by simp[Jj]),<-Bm (xs:=args) fun y hy=>hx y (by simp[Jj,hy])];exact hy
 | .w _ _,hx,hy=>hy.elim
 | .o _ _,hx,hy=>hy.elim
 | .p _ _ _,hx,hy=>hy.elim
 | .x _ _ _,hx,hy=>hy.elim
 | .q _ _ _ _,hx,hy=>hy.elim
 | .g t want dst o,hx,hy=>by
  simp only[YS] at *
  have ht:s t=s' t:=hx (.t t) (by simp[Jj])
  rcases hy with⟨b,hb,hc⟩|⟨hu,hv⟩
  case inr=>exact .inr ⟨by rw[<-ht];exact hu,hv⟩
  refine .inl ⟨b,by rw[<-ht];exact hb,hc.imp (fun⟨h1,h2⟩=>⟨h1,Bo (fun x hx'=>hx x (by simp[Jj,hx'])) h2⟩) id⟩
def kl:SO->Option Nat
 | .r d _=>some d
 | .c d _ _=>some d
 | .w _ _=>none
 | .o _ _=>none
 | .p _ _ _=>none
 | .x _ _ _=>none
 | .q _ _ _ _=>none
 | .g _ _ d o=>match kl o with|some e=>if d=some e then some e else none|none=>none
theorem ES {P:Program} {K:St->Prop} {σ:St}:∀ {so:SO} {d:Nat},kl so=some d->AO P so σ K->∃ v,YS P σ.h so σ.s v/\K ⟨aH σ.s d v,σ.h⟩
 | .r e op,d,hd,h=>by
  simp only[kl,Oy] at hd;subst hd
  simp only[AO] at h
  split at h
  ·rename_i p v hrd;exact⟨v,⟨p,hrd,h.1⟩,h.2⟩
  ·exact h.elim
 | .c e f args,d,hd,h=>by
  simp only[kl,Oy] at hd;subst hd
  simp only[AO] at h
  split at h
  ·rename_i fid caps as h1 h2
   obtain⟨res,hs,hf,hk⟩:=h
   refine⟨.d res, ?_,hk⟩
   simp only[YS,h1,h2]
   exact⟨res,hs,hf,rfl⟩
  ·exact h.elim
 | .w _ _,d,hd,h=>by simp[kl] at hd
 | .o _ _,d,hd,h=>by simp[kl] at hd
 | .p _ _ _,d,hd,h=>by simp[kl] at hd
 | .x _ _ _,d,hd,h=>by simp[kl] at hd
 | .q _ _ _ _,d,hd,h=>by simp[kl] at hd
 | .g t want e o,d,hd,h=>by
  simp only[kl] at hd
  split at hd
  ·rename_i e' he'
   split at hd
   ·rename_i hee
    simp only[Oy] at hd
    subst hd hee
    simp only[AO] at h
    split at h
    ·rename_i b hb
     by_cases hw:b=want
     ·obtain⟨v,hv,hk⟩:=ES he' (h.1 hw)
      exact⟨v,.inl ⟨b,hb,.inl ⟨hw,hv⟩⟩,hk⟩
     ·have hw':b= !want:=by cases b<;>cases want<;>simp_all
      exact⟨.d (.tup []),.inl ⟨b,hb,.inr ⟨hw',rfl⟩⟩,h.2 hw'⟩
    ·rename_i hu
     exact⟨.d (.tup []),.inr ⟨hu,rfl⟩,h⟩
    ·exact h.elim
   ·cases hd
  ·cases hd
theorem ET {P:Program} {h:Nat->Ch} {s:Nat->SV} {v:SV}:∀ {so:SO} {d:Nat},kl so=some d->YS P h so s v->AO P so ⟨s,h⟩ (· =⟨aH s d v,h⟩)
 | .r e op,d,hd,hy=>by
  simp only[kl,Oy] at hd;subst hd
  simp only[YS] at hy
  obtain⟨p,hrd,hp⟩:=hy
  simp only[AO,hrd]
  exact⟨hp,trivial⟩
 | .c e f args,d,hd,hy=>by
  simp only[kl,Oy] at hd;subst hd
  simp only[YS] at hy
  simp only[AO]
  split at hy
  ·rename_i fid caps as h1 h2
   obtain⟨res,hs,hf,rfl⟩:=hy
   (try simp only[h1,h2])
   exact⟨res,hs,hf,rfl⟩
  ·exact hy.elim
 | .w _ _,d,hd,hy=>by simp[kl] at hd
 | .o _ _,d,hd,hy=>by simp[kl] at hd
 | .p _ _ _,d,hd,hy=>by simp[kl] at hd
 | .x _ _ _,d,hd,hy=>by simp[kl] at hd
 | .q _ _ _ _,d,hd,hy=>by simp[kl] at hd
 | .g t want e o,d,hd,hy=>by
  simp only[kl] at hd
  split at hd
  ·rename_i e' he'
   split at hd
   ·rename_i hee
    simp only[Oy] at hd
    subst hd hee
    simp only[YS] at hy
    rcases hy with⟨b,hb,hc⟩|⟨hu,rfl⟩
    case inr=>simp only[AO,hu,putS]
    simp only[AO,hb]
    refine⟨fun hw=> ?_,fun hw=> ?_⟩
    ·rcases hc with⟨_,hv⟩|⟨h1,_⟩
     ·exact ET he' hv
     ·subst hw;cases b<;>simp at h1
    ·rcases hc with⟨h1,_⟩|⟨_,rfl⟩
     ·subst h1;cases b<;>simp at hw
     ·simp[putS]
   ·cases hd
  ·cases hd
def EU:List SO->Option (List Nat)
 |[]=>some []
 |o::l=>match kl o,EU l with
  |some d,some ds=>some (d::ds)
  |_,_=>none
def Aq (ds:List Nat) (vals:List SV) (s0:Nat->SV) (S:Nat->Bool):Nat->SV:=fun t=>
 match ds.idxOf? t with
 |some i=>if S i then vals.getD i (.d .any) else s0 t
 |none=>s0 t
theorem HS {ds:List Nat} (hn:ds.Nodup) {i:Nat} {d:Nat} (h:ds[i]?=some d):ds.idxOf? d=some i:=by
 induction ds generalizing i with
 |nil=>simp at h
 |cons e ds ih=>
  simp only[Qo] at hn
  cases i with
  |zero=>simp at h;subst h;simp[List.idxOf?_cons]
  |succ i=>
   simp at h
   have hne:e≠d:=fun he=>hn.1 (he▸OE h)
   rw[List.idxOf?_cons]
   simp[hne,ih hn.2 h]
theorem C4 {ds:List Nat} {i:Nat} {d:Nat} (h:ds.idxOf? d=some i):ds[i]?=some d:=by
 induction ds generalizing i with
 |nil=>simp at h
 |cons e ds ih=>
  rw[List.idxOf?_cons] at h
  split at h
  ·rename_i he;simp at h;subst h;simp at he;simp[he]
  ·simp only[Option.map_eq_some_iff] at h
   obtain⟨j,hj,rfl⟩:=h
   simpa using ih hj
theorem GV {ds:List Nat} {vals:List SV} {s0:Nat->SV} {S:Nat->Bool} {j d:Nat} {v:SV} (hn:ds.Nodup) (hd:ds[j]?=some d) (hv:vals[j]?=some v):
  aH (Aq ds vals s0 S) d v=Aq ds vals s0 (fun i=>S i||i==j):=by
 funext t
 by_cases ht:t=d
 ·subst ht
  simp[an,Aq,HS hn hd,List.getD,hv]
 ·rw[bf _ _ _ _ ht]
  unfold Aq
  cases hi:ds.idxOf? t with
  |none=>rfl
  |some i=>
   have hne:i≠j:=fun e=>by
    subst e
    have:=C4 hi
    rw[hd] at this;simp at this;exact ht this.symm
   simp[hne]
theorem Bp:∀ {sos:List SO} {ds:List Nat},EU sos=some ds->ds.length=sos.length/\∀ (j:Nat) (so:SO),sos[j]?=some so->∃ d,ds[j]?=some d/\kl so=some d
 |[],ds,h=>by simp only[EU,Oy] at h;subst h;simp
 |o::l,ds,h=>by
  simp only[EU] at h
  split at h
  ·rename_i d ds' h1 h2
   simp only[Oy] at h;subst h
   obtain⟨h3,h4⟩:=Bp h2
   refine⟨by simp[h3],fun j so hj=> ?_⟩
   cases j with
   |zero=>simp at hj;subst hj;exact⟨d,by simp,h1⟩
   |succ j=>simpa using h4 j so (by simpa using hj)
  ·cases h
theorem Md {P:Program} {K:St->Prop} {h:Nat->Ch} {s0:Nat->SV} {ds:List Nat} (hn:ds.Nodup):∀ (sos:List SO) (k:Nat) (vals:List SV),vals.length=k->(∀ (j:Nat) (so:SO),sos[j]?=some so->∃ d,ds[k+j]?=some d/\kl so=some d)->k+sos.length=ds.length->
  bh P K sos ⟨Aq ds vals s0 (fun i=>decide (i<k)),h⟩->
  ∃ more:List SV,more.length=sos.length/\(∀ (j:Nat) (so:SO) (v:SV),sos[j]?=some so->more[j]?=some v->YS P h so (Aq ds (vals++more) s0 (fun i=>decide (i<k+j))) v)/\K ⟨Aq ds (vals++more) s0 (fun i=>decide (i<ds.length)),h⟩
 |[],k,vals,hk,hd,hl,ha=>by
  refine⟨[],rfl,by simp, ?_⟩
  simp only[Pr,Qb] at hl
  simp only[OY]
  rw[<-hl];exact ha
 |so::sos,k,vals,hk,hd,hl,ha=>by
  simp only[bh] at ha
  obtain⟨d,hd1,hd2⟩:=hd 0 so oS
  simp only[Qb] at hd1
  obtain⟨v,hv,ha'⟩:=ES hd2 ha
  have pre:∀ (l:List SV) (n:Nat),n<=k->Aq ds (vals++l) s0 (fun i=>decide (i<n))=Aq ds vals s0 (fun i=>decide (i<n)):=fun l n hn'=>by
   funext t
   unfold Aq
   cases ds.idxOf? t with
   |none=>rfl
   |some i=>
    by_cases hi:i<n
    ·simp[hi,List.getD,Py (show i<vals.length by omega)]
    ·simp[hi]
  have step:aH (Aq ds vals s0 (fun i=>decide (i<k))) d v=Aq ds (vals++[v]) s0 (fun i=>decide (i<k+1)):=by
   rw[<-pre [v] k (OH _),GV hn hd1 (v:=v) (by rw[Pe oM];simp[hk])]
   congr 1
   funext i
   by_cases h1:i<k
   ·simp[h1,show i<k+1 by omega]
   ·by_cases h2:i=k
    ·subst h2;simp
    ·simp[h1,h2,show¬ i<k+1 by omega]
  simp only[step] at ha'
  obtain⟨more,hm1,hm2,hm3⟩:=Md hn sos (k+1) (vals++[v]) (by simp[hk]) (fun j so' hj=>by
   have:=hd (j+1) so' (by simpa using hj)
   rw[show k+1+j=k+(j+1) by omega];exact this) (by simp only[OW] at hl;omega) ha'
  refine⟨v::more,by simp[hm1],fun j so' v' hj hv'=> ?_,by simpa using hm3⟩
  cases j with
  |zero=>
   simp at hj hv'
   subst hj hv'
   rw[Qb,pre _ k (OH _)]
   exact hv
  |succ j=>
   have:=hm2 j so' v' (by simpa using hj) (by simpa using hv')
   rw[show k+(j+1)=k+1+j by omega]
   simpa using this
def back (all:Array Oper) (j:Nat):Nat->List Nat->Bool
 |0,S=>S.contains j
 |k+1,S=>back all j k (if S.contains (k+1) then match all[k+1]? with|some o=>S++((o.after.toList.filter (Region.binds .any)).map (·.on))|none=>S else S)
theorem mi {all:Array Oper} {j:Nat} {listed:Array Bool} (hc:∀ (i:Nat) o,listed.getD i false=true->all[i]?=some o->∀ e∈o.after,Region.binds .any e=true->listed.getD e.on false=true):
  ∀ (k:Nat) (S:List Nat),(∀ x∈S,listed.getD x false=true)->back all j k S=true->listed.getD j false=true
 |0,S,hS,hb=>hS j (by simpa[back] using hb)
 |k+1,S,hS,hb=>by
  simp only[back] at hb
  refine mi hc k _ ?_ hb
  intro x hx
  split at hx
  ·rename_i hk
   split at hx
   ·rename_i o ho
    rcases OV.1 hx with hx|hx
    ·exact hS x hx
    ·obtain⟨e,he,rfl⟩:=Pd.1 hx
     obtain⟨he,hb'⟩:=Qf.1 he
     exact hc (k+1) o (hS _ (by simpa using hk)) ho e (by simpa using he) hb'
   ·exact hS x hx
  ·exact hS x hx
def yc (all:Array Oper) (ds:List Nat):Nat->List Oper->List SO->Bool
 |_,[],[]=>true
 |j,o::ops,so::sos=>o.after.all (fun e=> !Region.binds .any e||decide (e.on<j))&&
   (GU (Jj so)).all (fun t=>match ds.idxOf? t with|some i=>(decide (i<j)&&o.after.any (fun e=>Region.binds .any e&&e.on==i))||(decide (j<=i)&&(i==j||back all j i [i]))|none=>true)&&yc all ds (j+1) ops sos
 |_,_,_=>false
theorem zb {all:Array Oper} {ds:List Nat}:∀ {ops:List Oper} {sos:List SO} {k:Nat},yc all ds k ops sos=true->∀ (j:Nat) (o:Oper) (so:SO),ops[j]?=some o->sos[j]?=some so->
  (∀ e∈o.after,Region.binds .any e=true->e.on<k+j)/\∀ t∈GU (Jj so),∀ i,ds.idxOf? t=some i->(i<k+j/\∃ e∈o.after,Region.binds .any e=true/\e.on=i)\/(k+j<=i/\(i=k+j\/back all (k+j) i [i]=true))
 |[],[],k,h,j,o,so,ho,hs=>by simp at ho
 |o'::ops,so'::sos,k,h,j,o,so,ho,hs=>by
  simp only[yc,Oz] at h
  obtain⟨⟨h1,h2⟩,h3⟩:=h
  cases j with
  |zero=>
   simp at ho hs
   subst ho hs
   refine⟨fun e he hb=> ?_,fun t ht i hi=> ?_⟩
   ·have:=Array.all_eq_true_iff_forall_mem.1 h1 e he
    simpa[hb] using this
   ·have:=Pa.1 h2 t ht
    simp only[hi,O3,Oz,OC,OI] at this
    rcases this with this|this
    ·refine .inl ⟨this.1, ?_⟩
     obtain⟨e,he,hb⟩:=Array.any_eq_true'.1 this.2
     simp only[Oz,OI] at hb
     exact⟨e,he,hb.1,hb.2⟩
    ·exact .inr this
  |succ j=>
   have:=zb h3 j o so (by simpa using ho) (by simpa using hs)
   rw[show k+(j+1)=k+1+j by omega]
   exact this
 |[],_::_,k,h,_,_,_,_,_=>by simp[yc] at h
 |_::_,[],k,h,_,_,_,_,_=>by simp[yc] at h
theorem nr {P:Program} {N:Nat} {ops:Array Oper}:∀ {l:List Oper} {sos:List SO},aY P N ops l sos=true->l.length=sos.length/\∀ (j:Nat) (o:Oper) (so:SO),l[j]?=some o->sos[j]?=some so->lz P N ops o so=true
 |[],[],_=>by simp
 |o'::l,so'::sos,h=>by
  simp only[aY,Oz] at h
  obtain⟨h1,h2⟩:=nr h.2
  refine⟨by simp[h1],fun j o so ho hs=> ?_⟩
  cases j with
  |zero=>simp at ho hs;subst ho hs;exact h.1
  |succ j=>exact h2 j o so (by simpa using ho) (by simpa using hs)
 |[],_::_,h=>by simp[aY] at h
 |_::_,[],h=>by simp[aY] at h
def C5 (n:Nat) (listed:Array Bool):List Nat:=(List.range n).filter fun i=> !listed.getD i true
theorem GW {n:Nat} {listed:Array Bool} {i:Nat} (hi:i<n) (hs:listed.size=n) (hl:listed.getD i true=false):(C5 n (listed.setIfInBounds i true)).length+1=(C5 n listed).length:=by
 have hmem:i∈C5 n listed:=by simp only[C5,Qf,PI,hi,hl,Po,and_self]
 have hnd:(C5 n listed).Nodup:=List.Pairwise.filter _ List.nodup_range
 have heq:C5 n (listed.setIfInBounds i true)=(C5 n listed).erase i:=by
  rw[hnd.erase_eq_filter]
  unfold C5
  rw[List.filter_filter]
  apply List.filter_congr
  intro j hj
  by_cases hji:i=j
  ·subst hji
   simp[hs,hi]
  ·rw[getD_set_ne true hji]
   simp[Ne.symm hji]
 rw[heq,List.length_erase_of_mem hmem]
 have:=List.length_pos_of_mem hmem
 omega
theorem Bq {ops:Array Oper} {listed:Array Bool} {j:Nat} {o:Oper} (hc:∀ (i:Nat) o,listed.getD i false=true->ops[i]?=some o->∀ e∈o.after,Region.binds .any e=true->listed.getD e.on false=true)
  (ho:ops[j]?=some o) (hedge:∀ e∈o.after,Region.binds .any e=true->listed.getD e.on false=true) (hj:j<listed.size):
  ∀ (i:Nat) o,(listed.setIfInBounds j true).getD i false=true->ops[i]?=some o->∀ e∈o.after,Region.binds .any e=true->(listed.setIfInBounds j true).getD e.on false=true:=by
 have mono:∀ k,listed.getD k false=true->(listed.setIfInBounds j true).getD k false=true:=fun k hk=>by
  by_cases hjk:j=k
  ·subst hjk;simp[hj]
  ·rw[getD_set_ne false hjk];exact hk
 intro i o' hi ho' e he hb
 by_cases hji:j=i
 ·subst hji
  rw[ho] at ho';cases ho'
  exact mono _ (hedge e he hb)
 ·rw[getD_set_ne false hji] at hi
  exact mono _ (hc i o' hi ho' e he hb)
section
variable {P:Program} {c:Cx}
theorem HT {ops:Array Oper} {sos:List SO} {ds:List Nat} {vals:List SV} {s0:Nat->SV} {h:Nat->Ch} {K:St->Prop} {Q:Exit->Act->World->Prop}
  (hQ:∀ σ' κ' φ' a' w',cE c σ' κ' φ' a' w'->K σ'->Q .normal a' w') (hm:aY P c.N ops ops.toList sos=true) (hds:EU sos=some ds) (hn:ds.Nodup) (hlex:yc ops ds 0 ops.toList sos=true) (hvl:vals.length=sos.length)
  (hys:∀ (j:Nat) so v,sos[j]?=some so->vals[j]?=some v->YS P h so (Aq ds vals s0 (fun i=>decide (i<j))) v) (hK:K ⟨Aq ds vals s0 (fun i=>decide (i<ds.length)),h⟩):
  ∀ (fuel:Nat) (listed:Array Bool) (κ:Nat->Value) (φ:Nat->List Nat) (a:Act) (w:World),listed.size=ops.size->(C5 ops.size listed).length=fuel->(∀ (i:Nat) o,listed.getD i false=true->ops[i]?=some o->∀ e∈o.after,Region.binds .any e=true->listed.getD e.on false=true)->cE c ⟨Aq ds vals s0 (fun i=>listed.getD i false),h⟩ κ φ a w->
   wpAny P .any ops Q fuel listed a w:=by
 obtain⟨hml,hmo⟩:=nr hm
 obtain⟨hdl,hdo⟩:=Bp hds
 have hlen:ds.length=ops.size:=by simp at hml;omega
 have fin:∀ (listed:Array Bool) (κ:Nat->Value) (φ:Nat->List Nat) (a:Act) (w:World),listed.size=ops.size->cE c ⟨Aq ds vals s0 (fun i=>listed.getD i false),h⟩ κ φ a w->Region.ready .any ops listed=[]->Q .normal a w:=by
  intro listed κ φ a w hls hr hready
  have all:∀ j,j<ops.size->listed.getD j false=true:=by
   intro j
   induction j using Nat.strongRecOn with
   |_ j ih=>
    intro hj
    by_cases hl:listed.getD j true=false
    ·exfalso
     have ho:ops[j]?=some ops[j]:=PL hj
     have hso:∃ so,sos[j]?=some so:=⟨_,OJ (by simp at hml;omega)⟩
     obtain⟨so,hso⟩:=hso
     have hx:=zb hlex j ops[j] so oS hso
     have:j∈Region.ready .any ops listed:=mem_ready.2 ⟨hl,ops[j],ho,fun e he hb=>ih e.on (by have:=hx.1 e he hb;omega) (by have:=hx.1 e he hb;omega)⟩
     rw[hready] at this;simp at this
    ·have hj':j<listed.size:=by omega
     simp[hj'] at hl⊢
     exact hl
  refine hQ _ _ _ _ _ hr ?_
  have:Aq ds vals s0 (fun i=>listed.getD i false)=Aq ds vals s0 (fun i=>decide (i<ds.length)):=by
   funext t
   unfold Aq
   cases hi:ds.idxOf? t with
   |none=>rfl
   |some i=>
    have hlt:i<ds.length:=(OG.1 (C4 hi)).1
    have h1:=all i oM
    simp only[h1,hlt,Qh]
  rw[this];exact hK
 intro fuel
 induction fuel with
 |zero=>
  intro listed κ φ a w hls hu _ hr
  have hready:Region.ready .any ops listed=[]:=by
   cases hrd:Region.ready .any ops listed with
   |nil=>rfl
   |cons i l=>
    exfalso
    have hi:i∈Region.ready .any ops listed:=by rw[hrd];simp
    obtain⟨h0,o,ho,_⟩:=mem_ready.1 hi
    have:i∈C5 ops.size listed:=by simp only[C5,Qf,PI,h0,Po,and_true];exact(Pw.1 ho).1
    rw[OX.1 hu] at this;simp at this
  exact⟨hready,fin listed κ φ a w hls hr hready⟩
 |succ fuel ih=>
  intro listed κ φ a w hls hu hcl hr
  refine⟨fin listed κ φ a w hls hr,fun j hj=> ?_⟩
  obtain⟨h0,o,ho,hedge⟩:=mem_ready.1 hj
  have hjlt:j<ops.size:=(Pw.1 ho).1
  have hso:∃ so,sos[j]?=some so:=⟨_,OJ (by simp at hml;omega)⟩
  obtain⟨so,hso⟩:=hso
  have hv:∃ v,vals[j]?=some v:=⟨_,OJ (by have:=(OG.1 hso).1;omega)⟩
  obtain⟨v,hv⟩:=hv
  obtain⟨d,hd,hd2⟩:=hdo j so hso
  have hx:=zb hlex j o so (by simpa using ho) hso
  have hy:YS P h so (Aq ds vals s0 (fun i=>listed.getD i false)) v:=by
   refine Bo (Ge fun t ht=> ?_) (hys j so v hso hv)
   unfold Aq
   cases hi:ds.idxOf? t with
   |none=>rfl
   |some i=>
    rcases hx.2 t ht i hi with⟨h1,e,he,hb,he'⟩|⟨h1,h2⟩
    ·have h2:=hedge e he hb
     rw[he'] at h2
     have h3:i<j:=by omega
     simp only[h2,h3,Qh]
    ·have hnl:listed.getD j false=false:=by
      simp only[PB] at h0⊢
      have:j<listed.size:=by omega
      simpa[this] using h0
     have h3:¬ i<j:=by omega
     have h4:listed.getD i false=false:=by
      rcases h2 with rfl|h2
      ·simpa using hnl
      ·rw[Ps] at h2
       cases hli:listed.getD i false with
       |false=>rfl
       |true=>
        have:=mi hcl i [i] (by simpa using hli) h2
        rw[hnl] at this;cases this
     simp only[h3,h4,Qj,O5,Pp]
  have hao:=ET hd2 hy
  have hmo':=hmo j o so (by simpa using ho) hso
  unfold wpOp
  simp only[ho]
  refine wi hr hmo' hao fun σ' κ' φ' a' w' hr' hk=> ?_
  subst hk
  have hli:(C5 ops.size (listed.setIfInBounds j true)).length=fuel:=by
   have:=GW hjlt hls h0
   omega
  refine ih (listed.setIfInBounds j true) κ' φ' a' w' (by simp[hls]) hli ?_ ?_
  ·exact Bq hcl ho hedge oM
  have:Aq ds vals s0 (fun i=>(listed.setIfInBounds j true).getD i false)=aH (Aq ds vals s0 (fun i=>listed.getD i false)) d v:=by
   rw[GV hn hd hv]
   congr 1
   funext i
   by_cases hij:j=i
   ·subst hij;simp[hls,hjlt]
   ·rw[getD_set_ne false hij];simp[Ne.symm hij]
  rw[this];exact hr'
theorem EV (hmix:P.follows .mixedOrders=true) {id:Nat} {ops:Array Oper} {sos:List SO} {ds:List Nat} {K:St->Prop} {Q:Exit->Act->World->Prop} {σ:St} {κ:Nat->Value} {φ:Nat->List Nat} {a:Act} {w:World}
  (hQ:∀ σ' κ' φ' a' w',cE c σ' κ' φ' a' w'->K σ'->Q .normal a' w') (hm:aY P c.N ops ops.toList sos=true) (hds:EU sos=some ds) (hn:ds.Nodup) (hlex:yc ops ds 0 ops.toList sos=true) (hr:cE c σ κ φ a w) (h:bh P K sos σ):
  (Code.region id ops true).wp P Q a w:=by
 obtain⟨hml,hmo⟩:=nr hm
 obtain⟨hdl,hdo⟩:=Bp hds
 have h0:∀ vals:List SV,Aq ds vals σ.s (fun _=>false)=σ.s:=fun vals=>by
  funext t;unfold Aq;cases ds.idxOf? t<;>simp
 obtain⟨vals,hvl,hys,hK⟩:=Md (P:=P) (K:=K) (h:=σ.h) (s0:=σ.s) hn sos 0 [] rfl (fun j so hj=>by simpa using hdo j so hj) (by simpa using hdl.symm) (by
  have:(fun i:Nat=>decide (i<0))=fun _=>false:=by funext i;simp
  rw[this,h0];exact h)
 simp only[OR,Ps] at hys hK
 refine wp_region_any hmix (HT (c:=c) hQ hm hds hn hlex hvl hys hK ops.size _ κ φ a _ oS ?_ ?_ ?_)
 ·have:C5 ops.size (Array.replicate ops.size false)=List.range ops.size:=by
   unfold C5
   rw[Qz]
   intro i hi
   simp at hi
   simp[hi]
  rw[this];simp
 ·intro i o hi
  by_cases hlt:i<ops.size<;>simp[hlt] at hi
 ·have:(fun i:Nat=>(Array.replicate ops.size false).getD i false)=fun _=>false:=by
   funext i
   by_cases hi:i<ops.size<;>simp[hi]
  rw[this,h0]
  exact hr.grown ((Below.refl _ _).drew)
end
