/-
  My text.
-/
import Derived.Test.YteaolfcegaidpaaGreatDoorSZEngJ
namespace Go.Proofs.YteaolfcegaidpaaGreatDoor
set_option linter.unusedSimpArgs false
set_option linter.unusedVariables false
open Go.RowKit
variable {K:St->Prop} {Q:Exit->Act->World->Prop} {X:St} {d:Nat} {h:Nat->Ch} {j:Nat} {next:Act->World->Prop} {o:Oper} {ops:Array Oper} {t:Nat}
def cS (σ X:St):Prop:=∀ (c:Cx) (κ:Nat->Value) (φ:Nat->List Nat) (a:Act) (w:World),cH c σ κ φ a w->∃ W h6,cH c X W h6 a w
theorem cS.refl (σ:St):cS σ σ:=fun _ κ φ _ _ h=>⟨κ,φ,h⟩
theorem cS.trans {σ b:St} (h:cS σ X) (k:cS X b):cS σ b:=fun c κ φ a w hr=>by
 obtain⟨W,h6,r1⟩:=h c κ φ a w hr
 exact k c W h6 a w r1
mutual
def SV.nOwn:SV->Nat
 | .own _ _=>1
 | .agg cs=>SV.nOwns cs
 | .tup cs=>SV.nOwns cs
 | .d _=>0
 | .nils=>0
 | .lit _ _ _=>0
 | .ref _ _=>0
 | .vec _=>0
 | .vref _ _ _ _=>0
 | .mp _=>0
 | .clo _ _=>0
def SV.nOwns:List SV->Nat
 |[]=>0
 |c::cs=>SV.nOwn c+SV.nOwns cs
end
mutual
def SV.own1:SV->Option (cO×DV)
 | .own m v=>some (m,v)
 | .agg cs=>SV.own1s cs
 | .tup cs=>SV.own1s cs
 | .d _=>none
 | .nils=>none
 | .lit _ _ _=>none
 | .ref _ _=>none
 | .vec _=>none
 | .vref _ _ _ _=>none
 | .mp _=>none
 | .clo _ _=>none
def SV.own1s:List SV->Option (cO×DV)
 |[]=>none
 |c::cs=>match SV.own1 c with|some x=>some x|none=>SV.own1s cs
end
mutual
def SV.plug (y:SV):SV->SV
 | .own _ _=>y
 | .agg cs=> .agg (SV.plugs y cs)
 | .tup cs=> .tup (SV.plugs y cs)
 | .d v=> .d v
 | .nils=> .nils
 | .lit s n cs=> .lit s n cs
 | .ref i o=> .ref i o
 | .vec i=> .vec i
 | .vref i s k o=> .vref i s k o
 | .mp i=> .mp i
 | .clo f l=> .clo f l
def SV.plugs (y:SV):List SV->List SV
 |[]=>[]
 |c::cs=>SV.plug y c::SV.plugs y cs
end
mutual
theorem Dy:∀ (x:SV),x.nOwn=0->x.noOwn=true/\∀ y,SV.plug y x=x
 | .own _ _,h=>by simp[SV.nOwn] at h
 | .agg cs,h=>by
  obtain⟨h1,h2⟩:=yl cs (by simpa[SV.nOwn] using h)
  exact⟨by simpa[SV.noOwn] using h1,fun y=>by simp[SV.plug,h2 y]⟩
 | .tup cs,h=>by
  obtain⟨h1,h2⟩:=yl cs (by simpa[SV.nOwn] using h)
  exact⟨by simpa[SV.noOwn] using h1,fun y=>by simp[SV.plug,h2 y]⟩
 | .d _,_=>⟨rfl,fun _=>rfl⟩
 | .nils,_=>⟨rfl,fun _=>rfl⟩
 | .lit _ _ _,_=>⟨rfl,fun _=>rfl⟩
 | .ref _ _,_=>⟨rfl,fun _=>rfl⟩
 | .vec _,_=>⟨rfl,fun _=>rfl⟩
 | .vref _ _ _ _,_=>⟨rfl,fun _=>rfl⟩
 | .mp _,_=>⟨rfl,fun _=>rfl⟩
 | .clo _ _,_=>⟨rfl,fun _=>rfl⟩
theorem yl:∀ (cs:List SV),SV.nOwns cs=0->SV.noOwns cs=true/\∀ y,SV.plugs y cs=cs
 |[],_=>⟨rfl,fun _=>rfl⟩
 |c::cs,h=>by
  simp only[SV.nOwns] at h
  obtain⟨h1,h2⟩:=Dy c oM
  obtain⟨E,h4⟩:=yl cs oM
  exact⟨by simp[SV.noOwns,h1,E],fun y=>by simp[SV.plugs,h2 y,h4 y]⟩
end
section
variable {w:World} {M:Nat->Prop} {κ:Nat->Value}
mutual
theorem Ms:∀ (x:SV),x.own1≠none->x.nOwn≠0
 | .own _ _,_=>by simp[SV.nOwn]
 | .agg cs,h=>by simp only[SV.nOwn];exact GG cs (by simpa[SV.own1] using h)
 | .tup cs,h=>by simp only[SV.nOwn];exact GG cs (by simpa[SV.own1] using h)
 | .d _,h=>by simp[SV.own1] at h
 | .nils,h=>by simp[SV.own1] at h
 | .lit _ _ _,h=>by simp[SV.own1] at h
 | .ref _ _,h=>by simp[SV.own1] at h
 | .vec _,h=>by simp[SV.own1] at h
 | .vref _ _ _ _,h=>by simp[SV.own1] at h
 | .mp _,h=>by simp[SV.own1] at h
 | .clo _ _,h=>by simp[SV.own1] at h
theorem GG:∀ (cs:List SV),SV.own1s cs≠none->SV.nOwns cs≠0
 |[],h=>by simp[SV.own1s] at h
 |c::cs,h=>by
  simp only[SV.own1s] at h
  simp only[SV.nOwns]
  split at h
  ·rename_i x hx
   have:=Ms c (by rw[hx];simp)
   omega
  ·have:=GG cs h
   omega
end
mutual
theorem Mt:∀ (x:SV),x.own1=none->x.nOwn=0
 | .own _ _,h=>by simp[SV.own1] at h
 | .agg cs,h=>by simp only[SV.nOwn];exact GH cs (by simpa[SV.own1] using h)
 | .tup cs,h=>by simp only[SV.nOwn];exact GH cs (by simpa[SV.own1] using h)
 | .d _,_=>rfl
 | .nils,_=>rfl
 | .lit _ _ _,_=>rfl
 | .ref _ _,_=>rfl
 | .vec _,_=>rfl
 | .vref _ _ _ _,_=>rfl
 | .mp _,_=>rfl
 | .clo _ _,_=>rfl
theorem GH:∀ (cs:List SV),SV.own1s cs=none->SV.nOwns cs=0
 |[],_=>rfl
 |c::cs,h=>by
  simp only[SV.own1s] at h
  split at h
  ·cases h
  ·rename_i hx
   simp only[SV.nOwns,Mt c hx,GH cs h]
end
mutual
theorem HM:∀ (x:SV) (v:Value) (F:List Nat) (m:cO) (d:DV),x.closed=true->x.nOwn=1->x.own1=some (m,d)->aQ w M κ x v F->∃ u,eR w M m d u F/\∀ (W:Nat->Value) y,ah w M W y u->ah w M W (SV.plug y x) v
 | .own m' d',v,F,m,d,_,_,ho,hr=>by
  simp only[SV.own1,SN,SS] at ho
  obtain⟨rfl,rfl⟩:=ho
  simp only[aQ] at hr
  exact⟨v,hr,fun W y hy=>by simpa only[SV.plug] using hy⟩
 | .agg cs,v,F,m,d,hc,hn,ho,hr=>by
  simp only[aQ] at hr
  obtain⟨vs,rfl,h1,h2⟩:=hr
  obtain⟨u,k1,k2⟩:=A9 cs vs F m d (by simpa[SV.closed] using hc) (by simpa[SV.nOwn] using hn) (by simpa[SV.own1] using ho) h2
  exact⟨u,k1,fun W y hy=>by simp only[SV.plug,ah];exact⟨vs,rfl,h1,k2 W y hy⟩⟩
 | .tup cs,v,F,m,d,hc,hn,ho,hr=>by
  simp only[aQ] at hr
  obtain⟨vs,rfl,h2⟩:=hr
  obtain⟨u,k1,k2⟩:=A9 cs vs F m d (by simpa[SV.closed] using hc) (by simpa[SV.nOwn] using hn) (by simpa[SV.own1] using ho) h2
  exact⟨u,k1,fun W y hy=>by simp only[SV.plug,ah];exact⟨vs,rfl,k2 W y hy⟩⟩
 | .d _,_,_,_,_,_,_,ho,_=>by simp[SV.own1] at ho
 | .nils,_,_,_,_,_,_,ho,_=>by simp[SV.own1] at ho
 | .lit _ _ _,_,_,_,_,_,_,ho,_=>by simp[SV.own1] at ho
 | .ref _ _,_,_,_,_,_,_,ho,_=>by simp[SV.own1] at ho
 | .vec _,_,_,_,_,_,_,ho,_=>by simp[SV.own1] at ho
 | .vref _ _ _ _,_,_,_,_,_,_,ho,_=>by simp[SV.own1] at ho
 | .mp _,_,_,_,_,_,_,ho,_=>by simp[SV.own1] at ho
 | .clo _ _,_,_,_,_,_,_,ho,_=>by simp[SV.own1] at ho
theorem A9:∀ (cs:List SV) (vs:List Value) (F:List Nat) (m:cO) (d:DV),SV.closeds cs=true->SV.nOwns cs=1->SV.own1s cs=some (m,d)->ar w M κ cs vs F->∃ u,eR w M m d u F/\∀ (W:Nat->Value) y,ah w M W y u->an w M W (SV.plugs y cs) vs
 |[],_,_,_,_,_,_,ho,_=>by simp[SV.own1s] at ho
 |c::cs,vs,F,m,d,hc,hn,ho,hr=>by
  simp only[ar] at hr
  obtain⟨v,us,z,I,rfl,rfl,h1,h2⟩:=hr
  simp only[SV.closeds,SR] at hc
  simp only[SV.nOwns] at hn
  simp only[SV.own1s] at ho
  split at ho
  ·rename_i x hx
   simp only[SN] at ho;subst ho
   have s4:c.nOwn≠0:=fun h0=>by
    have:∀ (x:SV),x.own1≠none->x.nOwn≠0:=Ms
    exact this c (by rw[hx];simp) h0
   obtain⟨u,k1,k2⟩:=HM c v z m d hc.1 oM hx h1
   obtain⟨k3,k4⟩:=yl cs oM
   obtain⟨k5,rfl⟩:=ar.to_S cs us I k3 h2
   refine⟨u,by simpa using k1,fun W y hy=> ?_⟩
   simp only[SV.plugs,an,k4 y]
   exact⟨v,us,rfl,k2 W y hy,k5.kappa _ _ hc.2⟩
  ·rename_i hx
   have h8:c.nOwn=0:=Mt c hx
   obtain⟨k3,k4⟩:=Dy c h8
   obtain⟨k5,rfl⟩:=aQ.to_S c v z k3 h1
   obtain⟨u,k1,k2⟩:=A9 cs us I m d hc.2 oM ho h2
   refine⟨u,by simpa using k1,fun W y hy=> ?_⟩
   simp only[SV.plugs,an,k4 y]
   exact⟨v,us,rfl,k5.kappa _ _ hc.1,k2 W y hy⟩
end
end
def takes (σ:St) (L:List (Nat×Ch)) (dst:Option Nat) (C:SV):Option St:=
 match dst with
 |none=>if C.nOwn=0 then some ⟨σ.s,kd L σ.h⟩ else none
 |some d=>if C.nOwn=0 then some ⟨aD σ.s d C,kd L σ.h⟩ else if C.nOwn=1 then
   match C.own1 with
   |some (m,v)=>match cL m v with
    |some (ch,mk)=>some ⟨aD (eC d .any σ.s) d (SV.plug (mk d) C),aD (hT d .any (kd L σ.h)) d ch⟩
    |none=>none
   |none=>none
  else none
inductive SO where
 |r (dst:Nat) (op:wh)
 |c (dst:Nat) (f:SX) (args:List SX)
 |o (dst:Nat) (op:wh)
 |w (dst:Nat) (op:Oh)
 |p (dst:Option Nat) (f:SX) (args:List SX)
 |x (dst:Nat) (op:Oh) (late:List (Nat×Nat×wh))
 |q (dst:Nat) (f:SX) (args:List SX) (late:List (Nat×Nat×wh))
 |g (t:Nat) (want:Bool) (dst:Option Nat) (o:SO)
variable {so:SO}
def putS (σ:St) (dst:Option Nat) (v:SV):St:=
 match dst with
 |some d=>⟨aD σ.s d v,σ.h⟩
 |none=>σ
def Qb (h:Nat->Ch) (s:Nat->SV) (op:wh):Option (Prop×SV):=
 match op with
 | .gd t want op=>match s t with
  | .d (.bool b)=>if b=want then rd h s op else some (True,.d (.tup []))
  | .d (.tup [])=>some (True,.d (.tup []))
  |_=>none
 |op=>rd h s op
theorem Qc {s:Nat->SV} {op:wh} {x:Prop×SV} (hr:rd h s op=some x):Qb h s op=some x:=by
 cases op<;>first|exact hr|(simp only[rd] at hr;cases hr)
def AL (σ:St):List (Nat×Nat×wh)->Prop
 |[]=>True
 |(_,t,op)::l=>(match Qb σ.h σ.s op with|some (p,v)=>p/\v=σ.s t|none=>False)/\AL σ l
def AO (P:Program):SO->St->(St->Prop)->Prop
 | .r dst op,σ,K=>match rd σ.h σ.s op with
  |some (p,v)=>p/\K ⟨aD σ.s dst v,σ.h⟩
  |none=>False
 | .c dst f args,σ,K=>match ev σ.s f,SV.lends σ.h (args.map (ev σ.s)) with
  | .d (.fn D caps),some as=>∃ C,aa P D (as++caps) C/\((SV.toDVs (args.map (ev σ.s))).isSome=true\/C.flat=true)/\K ⟨aD σ.s dst (.d C),σ.h⟩
  |_,_=>False
 | .o dst op,σ,K=>∃ h5,cS σ h5/\∃ p v,rd h5.h h5.s op=some (p,v)/\p/\K ⟨aD h5.s dst v,h5.h⟩
 | .w dst op,σ,K=>∃ h5,cS σ h5/\∃ p X,wr h5 dst op=some (p,X)/\p/\K X
 | .p dst f args,σ,K=>∃ h5,cS σ h5/\∃ D caps ins outs C L h4,ev h5.s f= .d (.fn D caps)/\bB P D (ins++caps.map .d) C (outs++caps.map .d)/\C.closed=true/\
   HandL h5.h (args.map (ev h5.s)) ins outs L/\takes h5 L dst C=some h4/\K h4
 | .x dst op late,σ,K=>match wr σ dst op with
  |some (p,X)=>p/\AL X late/\K X
  |none=>False
 | .q dst f args late,σ,K=>∃ D ins outs C L X,ev σ.s f= .d (.fn D [])/\bB P D ins C outs/\C.closed=true/\HandL σ.h (args.map (ev σ.s)) ins outs L/\takes σ L (some dst) C=some X/\AL X late/\K X
 | .g t want dst o,σ,K=>match σ.s t with
  | .d (.bool b)=>(b=want->AO P o σ K)/\(b= !want->K (putS σ dst (.d (.tup []))))
  | .d (.tup [])=>K (putS σ dst (.d (.tup [])))
  |_=>False
def a6 (P:Program) (K:St->Prop):List SO->St->Prop
 |[],σ=>K σ
 |o::T,σ=>AO P o σ (a6 P K T)
def eD (P:Program) (N:Nat) (o:Oper):SO->Bool
 | .r dst op=>o.dst==some dst&&decide (dst<N)&&cr P N o.op op
 | .o dst op=>o.dst==some dst&&decide (dst<N)&&cr P N o.op op
 | .c dst f args=>o.dst==some dst&&decide (dst<N)&&(match o.op with
  | .call {callee:= .value x,args:=as,argTypes:=_}=>aG N x f&&lC N as.toList args
  |_=>false)
 | .p dst f args=>o.dst==dst&&(match dst with|some d=>decide (d<N)|none=>true)&&(match o.op with
  | .call {callee:= .value x,args:=as,argTypes:=_}=>aG N x f&&lC N as.toList args
  |_=>false)
 | .w d op=>mJ P N o.op o.dst d op
 | .x d op _=>mJ P N o.op o.dst d op
 | .q d f args _=>o.dst==some d&&decide (d<N)&&(match o.op with
  | .call {callee:= .value x,args:=as,argTypes:=_}=>aG N x f&&lC N as.toList args
  |_=>false)
 | .g _ _ _ _=>false
def l6 (P:Program) (N:Nat) (ops:Array Oper) (o:Oper):SO->Bool
 | .g t want dst so=>(match o.guard with
  |some (j,e)=>e==want&&(ops[j]?).bind (·.dst)==some t&&decide (t<N)
  |none=>false)&&o.dst==dst&&eD P N o so
 |so=>o.guard==none&&eD P N o so
def bh (P:Program) (N:Nat) (ops:Array Oper):List Oper->List SO->Bool
 |[],[]=>true
 |o::l,so::sos=>l6 P N ops o so&&bh P N ops l sos
 |_,_=>false
section
variable {P:Program} {c:Cx} {σ:St} {κ:Nat->Value} {φ:Nat->List Nat} {a:Act} {w:World}
mutual
theorem K0 (h:Nat->Ch):∀ (x:SV) (d:DV),x.toDV=some d->SV.lend h x=some d
 | .d _,d,hd=>by simpa only[SV.toDV,SV.lend] using hd
 | .nils,d,hd=>by simpa only[SV.toDV,SV.lend] using hd
 | .lit _ _ _,d,hd=>by simpa only[SV.lend] using hd
 | .tup _,d,hd=>by simpa only[SV.lend] using hd
 | .agg cs,d,hd=>by
  simp only[SV.toDV] at hd
  split at hd
  ·rename_i xs T
   simp only[SV.lend,kU h cs xs T]
   exact hd
  ·cases hd
 | .ref _ _,d,hd=>by simp[SV.toDV] at hd
 | .vec _,d,hd=>by simp[SV.toDV] at hd
 | .vref _ _ _ _,d,hd=>by simp[SV.toDV] at hd
 | .mp _,d,hd=>by simp[SV.toDV] at hd
 | .clo _ _,d,hd=>by simp[SV.toDV] at hd
 | .own _ _,d,hd=>by simp[SV.toDV] at hd
theorem kU (h:Nat->Ch):∀ (cs:List SV) (O:List DV),SV.toDVs cs=some O->SV.lends h cs=some O
 |[],O,hd=>by simpa only[SV.toDVs,SV.lends] using hd
 |c::cs,O,hd=>by
  simp only[SV.toDVs] at hd
  split at hd
  ·rename_i x xs hx T
   simp only[SV.lends,K0 h c x hx,kU h cs xs T]
   exact hd
  ·cases hd
end
theorem HN (hr:cH c σ κ φ a w) {op:Oh} (Z:mJ P c.N o.op o.dst d op=true) {p:Prop} (G:wr σ d op=some (p,X)) (hp:p):kT P c o a w X:=by
 obtain⟨dst,v7,ty,S,U,gd⟩:=o
 simp only at Z
 cases op with
 |boxM y=>
  simp only[mJ,SR,S1] at Z
  obtain⟨⟨rfl,hd⟩,Z⟩:=Z
  split at Z
  ·simp only[wr] at G
   split at G
   ·rename_i cs hc
    simp only[SN,SS] at G
    obtain⟨_,rfl⟩:=G
    exact P4 hr Z hc ty S U gd (by simpa using hd)
   ·cases G
  ·obtain⟨v,i,z,rfl,hi,hz,u9⟩:=De Z
   simp only[wr,ev] at G
   split at G
   ·rename_i cs hc
    simp only[SN,SS] at G
    obtain⟨_,rfl⟩:=G
    exact Mb hr hi hz u9 hc ty S U gd (by simpa using hd)
   ·cases G
  ·cases Z
 |st n x y=>
  simp only[mJ,SR,S1] at Z
  obtain⟨rfl,Z⟩:=Z
  split at Z
  ·simp only[SR,S1] at Z
   obtain⟨⟨⟨h1,h2⟩,E⟩,h4⟩:=Z
   simp only[wr] at G
   split at G
   ·rename_i id off B
    split at G
    ·rename_i cs vs hh hv
     simp only[SN,SS] at G
     obtain⟨rfl,rfl⟩:=G
     exact KR hr h1 h2 E h4 B hh hv hp.1 hp.2 ty S U gd
    ·cases G
   ·rename_i id sz i off B
    split at G
    ·rename_i e N rows vs hh hv
     split at G
     ·rename_i r V
      simp only[SN,SS] at G
      obtain⟨rfl,rfl⟩:=G
      obtain⟨rfl,u6,qi⟩:=hp
      exact KS hr h1 h2 E h4 B hh hv V u6 qi ty S U gd
     ·cases G
    ·cases G
   ·cases G
  ·cases Z
 |app e sz x y=>
  simp only[mJ,SR,S1] at Z
  obtain⟨⟨rfl,hd⟩,Z⟩:=Z
  split at Z
  ·rename_i args ts
   split at Z
   ·rename_i L y' t t' r5 Q
    simp only[SR,S1] at Z
    obtain⟨⟨⟨h1,h2⟩,rfl⟩,E⟩:=Z
    split at E
    ·rename_i W hu
     simp only[SR,S1] at E
     obtain⟨rfl,E⟩:=E
     split at E
     ·rename_i i hi
      simp only[SR,S1,SU] at E
      obtain⟨⟨⟨h4,h5⟩,h6⟩,h7⟩:=E
      split at h7
      ·rename_i z hz
       simp only[S1] at h7
       simp only[wr] at G
       have hx:=am hr h1
       split at G
       ·rename_i id f B r8
        rw[B] at hx
        simp only[ah] at hx
        split at G
        ·rename_i e2 v5 rows hh
         simp only[SN,SS] at G
         obtain⟨rfl,rfl⟩:=G
         obtain⟨rfl,rfl,R,C⟩:=hp
         have r2:=hr.chunks id
         rw[hh] at r2
         simp only[kK] at r2
         exact BW hr r5 Q hu hi h4 h5 h6 hz h7 h2 r8 R C (by rw[hx];exact r2) ty S U gd (by simpa using hd)
        ·cases G
       ·rename_i f B r8
        rw[B] at hx
        simp only[ah] at hx
        simp only[SN,SS] at G
        obtain⟨rfl,rfl⟩:=G
        obtain⟨R,C⟩:=hp
        have r1:cH c ⟨σ.s,aD σ.h d .dead⟩ κ (aD φ d []) a w:=hr.drop d
        have:=BW (id:=d) (rows:=[]) r1 r5 Q hu hi h4 h5 h6 hz h7 h2 r8 R (by simpa using C) (by rw[hx];exact⟨[],[],World.ownsRow_nil w 0 W sz,by simp,by simp,by simp[ar],by rw[au];rfl⟩) ty S U gd (by simpa using hd) (d:=d)
        simp only[Tb] at this
        have e3:cZ ⟨σ.s,aD σ.h d .dead⟩ d d W sz f=cZ σ d d W sz f:=by
         unfold cZ St.swap
         simp only[St.mk.injEq,true_and]
         funext j
         by_cases hj:j=d
         ·subst hj;rw[au,au]
         ·rw[bv _ _ _ _ hj,bv _ _ _ _ hj];simp only[hT,bv _ _ _ _ hj]
        rw[e3] at this
        exact this
       ·rename_i N n cs f B r8
        simp only[SN,SS] at G
        obtain⟨rfl,rfl⟩:=G
        obtain⟨rfl,r6,R,C⟩:=hp
        exact IZ hr r5 Q hu hi h4 h6 hz h7 h1 B h2 r8 r6 R C ty S U gd (by simpa using hd)
       ·cases G
      ·cases h7
     ·cases E
    ·cases E
   ·cases Z
  ·cases Z
 |appS e x y=>
  simp only[mJ,SR,S1] at Z
  obtain⟨⟨rfl,hd⟩,Z⟩:=Z
  split at Z
  ·split at Z
   ·rename_i L y' t t' r5 Q
    simp only[SR] at Z
    obtain⟨⟨⟨h1,h2⟩,u⟩,E⟩:=Z
    split at u
    ·rename_i hs
     split at E
     ·rename_i W hu
      simp only[SR,S1] at E
      obtain⟨rfl,E⟩:=E
      split at E
      ·rename_i i hi
       simp only[SR,S1] at E
       obtain⟨⟨h4,h5⟩,h6⟩:=E
       split at h6
       ·rename_i hz
        simp only[wr] at G
        have hx:=am hr h1
        have hy:=am hr h2
        split at G
        ·rename_i id l B s
         rw[B] at hx
         rw[s] at hy
         simp only[ah,ba] at hx hy
         split at G
         ·rename_i e2 v5 rows hh
          simp only[SN,SS] at G
          obtain⟨rfl,rfl⟩:=G
          obtain⟨rfl,rfl,C⟩:=hp
          have r2:=hr.chunks id
          rw[hh] at r2
          simp only[kK] at r2
          exact JJ hr r5 Q hu hs hi h4 h5 hz hy C (by rw[hx];exact r2) ty S U gd (by simpa using hd)
         ·cases G
        ·rename_i l B s
         rw[B] at hx
         rw[s] at hy
         simp only[ah,ba] at hx hy
         simp only[SN,SS] at G
         obtain⟨rfl,rfl⟩:=G
         have C:=hp
         have r1:cH c ⟨σ.s,aD σ.h d .dead⟩ κ (aD φ d []) a w:=hr.drop d
         have:=JJ (id:=d) (rows:=[]) r1 r5 Q hu hs hi h4 h5 hz hy (by simpa using C) (by rw[hx];exact⟨[],[],World.ownsRow_nil w 0 W 1,by simp,by simp,by simp[ar],by rw[au];rfl⟩) ty S U gd (by simpa using hd) (d:=d)
         simp only[Tb] at this
         have e3:cZ ⟨σ.s,aD σ.h d .dead⟩ d d W 1 (l.map fun b=>[SV.d (.int .u8 b.toNat)])=cZ σ d d W 1 (l.map fun b=>[SV.d (.int .u8 b.toNat)]):=by
          unfold cZ St.swap
          simp only[St.mk.injEq,true_and]
          funext j
          by_cases hj:j=d
          ·subst hj;rw[au,au]
          ·rw[bv _ _ _ _ hj,bv _ _ _ _ hj];simp only[hT,bv _ _ _ _ hj]
         rw[e3] at this
         exact this
        ·cases G
       ·cases h6
      ·cases E
     ·cases E
    ·cases u
   ·cases Z
  ·cases Z
 |mkmap kk=>
  simp only[mJ,SR,S1] at Z
  obtain⟨⟨rfl,hd⟩,Z⟩:=Z
  split at Z
  ·simp only[wr,SN,SS] at G
   obtain⟨_,rfl⟩:=G
   exact Md hr kk ty S U gd (by simpa using hd)
  ·cases Z
 |mset kk m k v=>
  simp only[mJ,SR,S1] at Z
  obtain⟨rfl,Z⟩:=Z
  split at Z
  ·simp only[SR] at Z
   obtain⟨⟨⟨h1,h2⟩,E⟩,h4⟩:=Z
   split at h4
   ·rename_i kt e Y
    simp only[S1] at h4
    simp only[wr] at G
    split at G
    ·rename_i id x s6 r3
     split at G
     ·rename_i v4 kv hh
      simp only[SN,SS] at G
      obtain⟨rfl,rfl⟩:=G
      obtain⟨rfl,hf⟩:=hp
      exact Oi hr h1 h2 E Y h4 s6 r3 hh hf ty S U gd
     ·cases G
    ·cases G
   ·cases h4
  ·cases Z
 |bldM T e=>
  simp only[mJ,SR,S1] at Z
  obtain⟨⟨rfl,hd⟩,Z⟩:=Z
  split at Z
  ·rename_i t
   simp only[SR,S1] at Z
   obtain⟨rfl,Z⟩:=Z
   split at Z
   ·rename_i i hi
    split at Z
    ·rename_i z hz
     split at Z
     ·rename_i hc
      simp only[wr,SN,SS] at G
      obtain⟨_,rfl⟩:=G
      exact P3 hr hi hz hc ty S U gd (by simpa using hd)
     ·cases Z
    ·cases Z
   ·cases Z
  ·cases Z
 |mkS e sz g x y=>
  simp only[mJ,SR,S1] at Z
  obtain⟨⟨rfl,hd⟩,Z⟩:=Z
  split at Z
  ·simp only[SR] at Z
   obtain⟨⟨h1,h2⟩,E⟩:=Z
   split at E
   ·rename_i W J
    simp only[SR,S1] at E
    obtain⟨rfl,E⟩:=E
    split at E
    ·rename_i i hi
     simp only[SR,S1,SU] at E
     obtain⟨⟨⟨h4,h5⟩,h6⟩,h7⟩:=E
     split at h7
     ·rename_i z hz
      simp only[SR,S1] at h7
      simp only[wr] at G
      split at G
      ·rename_i cs k1 n k2 m hc hx hy
       simp only[SN,SS] at G
       obtain⟨rfl,rfl⟩:=G
       obtain⟨r4,h8,h9,A⟩:=hp
       exact P6 hr J hi h4 h5 h6 hz h7.1 h7.2 hc h1 h2 hx hy r4 h8 h9 A ty S U gd (by simpa using hd)
      ·cases G
     ·cases h7
    ·cases E
   ·cases E
  ·cases Z
 |slM e sz xs=>
  simp only[mJ,SR,S1] at Z
  obtain⟨⟨rfl,hd⟩,Z⟩:=Z
  split at Z
  ·simp only[SR,S1] at Z
   obtain⟨⟨h1,h2⟩,E⟩:=Z
   obtain⟨r0,s1⟩:=y5 hr h2
   split at E
   ·rename_i W J
    simp only[SR,S1] at E
    obtain⟨rfl,E⟩:=E
    split at E
    ·rename_i i hi
     simp only[SR,S1,SU] at E
     obtain⟨⟨⟨h4,h5⟩,h6⟩,h7⟩:=E
     split at h7
     ·rename_i z hz
      simp only[S1] at h7
      simp only[wr] at G
      split at G
      ·rename_i rows K
       simp only[SN,SS] at G
       obtain⟨_,rfl⟩:=G
       have:=P5 hr J hi h4 h5 h6 hz h7 h1 r0 (fun j q hj=>by simpa using s1 j q hj) K ty S U gd (by simpa using hd)
       simpa using this
      ·cases G
     ·cases h7
    ·cases E
   ·cases E
  ·cases Z
 |trunc sz y h=>
  simp only[mJ,SR,S1] at Z
  obtain⟨⟨rfl,hd⟩,Z⟩:=Z
  split at Z
  ·simp only[SR] at Z
   obtain⟨⟨h1,h2⟩,E⟩:=Z
   split at E
   ·rename_i e J
    simp only[SR,S1,SU] at E
    obtain⟨⟨h4,h5⟩,h6⟩:=E
    simp only[wr] at G
    split at G
    ·rename_i id k n hx hn
     split at G
     ·rename_i W N rows hh
      simp only[SN,SS] at G
      obtain⟨rfl,rfl⟩:=G
      obtain⟨rfl,h0,r9⟩:=hp
      exact Mc hr J h4 h5 h1 h2 hx hn hh h0 r9 ty S U gd (by simpa using hd)
     ·cases G
    ·cases G
   ·cases E
  ·cases Z
theorem Mu {xs ins outs:List SV} {L:List (Nat×Ch)} (hh:HandL h xs ins outs L):outs.length=xs.length:=by
 induction hh<;>simp_all
theorem A_ {x:Operand} {f:FuncId} {args:Array Operand} {ts:Array TypeId} {caps:List Value} (hx:a.eval x= .func (.func f) #[] caps.toArray) (hf:mh P f=true) (dst:Option Tmp) (ty:TypeId) (S:String) (U:Array Edge) (gd:Option (Nat×Bool)):
  (execOp a.eval ⟨dst,.call {callee:= .value x,args,argTypes:=ts},ty,S,U,gd⟩).run P w= .ok (.enter f (args.toList.map a.eval++caps).toArray) w:=by
 unfold mh at hf
 cases l:P.funcs[f]? with
 |none=>simp[l] at hf
 |some fn=>
  simp only[l,SR,bne_iff_ne,ne_eq] at hf
  obtain⟨h1,h2⟩:=hf
  have e:(args.map a.eval)++caps.toArray=(args.toList.map a.eval++caps).toArray:=by
   rw[<-TP];simp
  have E:(fn.name== "runtime.NumGoroutine")=false:=by simpa using h2
  have h4:fn.body.isNone=false:=by cases hb:fn.body<;>simp_all
  simp only[execOp,resolve,hx,Deferred.ofValue,Sem.run_bind,Sem.run_pure,Result.andThen_ok,invoke,callFunc,program,Sem.run,l,E,h4,Tj,Tv]
  simp[e]
def R8:SO->Bool
 | .q _ _ _ _=>true
 |_=>false
theorem HO {ops:Array Oper} (hr:cH c σ κ φ a w) (hq:R8 so=false) (Z:eD P c.N o so=true) (h:AO P so σ K) (hn:∀ X W h6 a' w',cH c X W h6 a' w'->K X->next a' w'):o.wp P a w next Q:=by
 cases so with
 |q _ _ _ _=>simp[R8] at hq
 |r dst op=>
  simp only[eD,SR,S1,SU] at Z
  obtain⟨⟨h1,h2⟩,E⟩:=Z
  simp only[AO] at h
  split at h
  ·rename_i p v A
   obtain⟨u,w',F,hb,r0⟩:=Hw hr E A h.1
   unfold Oper.wp
   rw[F]
   simp only[Oper.upon,h1]
   exact hn _ _ _ _ _ (hr.put h2 hb r0) h.2
  ·exact h.elim
 |o dst op=>
  simp only[eD,SR,S1,SU] at Z
  obtain⟨⟨h1,h2⟩,E⟩:=Z
  simp only[AO] at h
  obtain⟨h5,r2,p,v,A,hp,hK⟩:=h
  obtain⟨r6,r3,hr⟩:=r2 _ _ _ _ _ hr
  obtain⟨u,w',F,hb,r0⟩:=Hw hr E A hp
  unfold Oper.wp
  rw[F]
  simp only[Oper.upon,h1]
  exact hn _ _ _ _ _ (hr.put h2 hb r0) hK
 |c dst f args=>
  simp only[eD,SR,S1,SU] at Z
  obtain⟨⟨h1,h2⟩,E⟩:=Z
  simp only[AO] at h
  obtain⟨s4,v7,ty,S,U,gd⟩:=o
  simp only at h1 E
  subst h1
  split at E
  ·rename_i x as ts
   simp only[SR] at E
   split at h
   ·rename_i D caps O B u0
    obtain⟨C,⟨h9,y⟩,v2,hK⟩:=h
    have hx:=am hr E.1
    rw[B] at hx
    simp only[ah,ba] at hx
    obtain⟨s7,hx,J⟩:=hx
    have r5:=A5 hr _ _ _ (jq hr E.2) u0
    unfold Oper.wp
    rw[A_ (P:=P) (w:=w) (args:=as) hx h9]
    simp only[Oper.upon]
    rcases v2 with hd|hf
    ·obtain⟨es,V⟩:=TX.1 hd
     have s1:=an.toDVs _ _ _ (jq hr E.2) V
     have r7:es=O:=by
      have key:∀ (h:Nat->Ch) (cs:List SV) (es:List DV),SV.toDVs cs=some es->SV.lends h cs=some es:=kU
      have:=key σ.h _ _ V
      rw[u0] at this;simpa using this.symm
     subst r7
     refine(y w (own c φ) _ (fun b hb=>hr.own_lt hb) (s1.append J) hr.good).mono ?_
     rintro e w' ⟨v,rfl,r0,hb⟩
     simp only
     exact hn _ _ _ _ _ (hr.put h2 hb (by simpa only[ah] using r0)) hK
    ·refine(y w c.M0 _ (fun b hb=>Tt (hr.m0 b hb).1 hr.size) (r5.append (J.ext (lA.shrink fun b hb=> .inl hb))) hr.good).mono ?_
     rintro e w' ⟨v,rfl,r0,hb⟩
     simp only
     exact hn _ _ _ _ _ (hr.put h2 hb (by simp only[ah];exact r0.flat _ _ hf)) hK
   ·exact h.elim
  ·cases E
 |w d op=>
  simp only[eD] at Z
  simp only[AO] at h
  obtain⟨h5,r2,p,X,G,hp,hK⟩:=h
  obtain⟨r6,r3,hr⟩:=r2 _ _ _ _ _ hr
  obtain⟨v,w',W,h6,F,r1⟩:=HN hr Z G hp
  unfold Oper.wp
  rw[F]
  rcases r1 with⟨u,rfl,j⟩|⟨rfl,j⟩
  ·simp only[Oper.upon];exact hn _ _ _ _ _ j hK
  ·simp only[Oper.upon];exact hn _ _ _ _ _ j hK
 |x d op late=>
  simp only[eD] at Z
  simp only[AO] at h
  split at h
  ·rename_i p X G
   obtain⟨v,w',W,h6,F,r1⟩:=HN hr Z G h.1
   unfold Oper.wp
   rw[F]
   rcases r1 with⟨u,rfl,j⟩|⟨rfl,j⟩
   ·simp only[Oper.upon];exact hn _ _ _ _ _ j h.2.2
   ·simp only[Oper.upon];exact hn _ _ _ _ _ j h.2.2
  ·exact h.elim
 |p dst f args=>
  simp only[eD,SR,S1] at Z
  obtain⟨⟨h1,h2⟩,E⟩:=Z
  simp only[AO] at h
  obtain⟨h5,r2,D,caps,ins,outs,C,L,h4,B,⟨h9,y⟩,N,i,H,hK⟩:=h
  obtain⟨r6,r3,hr⟩:=r2 _ _ _ _ _ hr
  obtain⟨s4,v7,ty,S,U,gd⟩:=o
  simp only at h1 E
  subst h1
  split at E
  ·rename_i x as ts
   simp only[SR] at E
   have hx:=am hr E.1
   rw[B] at hx
   simp only[ah,ba] at hx
   obtain⟨s7,hx,J⟩:=hx
   have T:=jq hr E.2
   unfold Oper.wp
   rw[A_ (P:=P) (w:=w) (args:=as) hx h9]
   simp only[Oper.upon]
   have r9:∀ b,((own c r3 b/\b∉iJ r3 L)\/b∈iJ r3 L)->own c r3 b:=fun b hb=>by
    rcases hb with hb|hb
    ·exact hb.1
    ·obtain⟨id,_,hi⟩:=cp.1 hb;exact .inr ⟨id,hi⟩
   have n:=(Mg hr (M:=fun b=>(own c r3 b/\b∉iJ r3 L)\/b∈iJ r3 L) r9 i T).append (ar.of_S (κ:=κ0) _ _ (an.of_d (J.ext (lA.shrink r9))))
   rw[Tg] at n
   refine(y w (fun b=>own c r3 b/\b∉iJ r3 L) _ (iJ r3 L) (fun b hb=>⟨hr.own_lt hb.1,hb.2⟩) (fun b hb=>hr.own_lt (r9 b (.inr hb))) (y7 hr i).1 n hr.good (fun t Y hb=>by obtain⟨id,_,hi⟩:=cp.1 hb;exact hr.free t Y hi)).mono ?_
   rintro e w' ⟨v,z,I,rfl,v1,s0,r4,R,k⟩
   simp only
   obtain⟨G1,G2,rfl,v5,s6⟩:=v1.split
   have h8:outs.length=(as.toList.map a.eval).length:=by
    have h1:=T.length
    have h2:outs.length=(args.map (ev h5.s)).length:=Mu i
    omega
   rw[h8,List.take_left] at v5
   have s2:∀ (l:List DV),SV.noOwns (l.map .d)=true:=fun l=>by induction l with|nil=>rfl|cons d l ih=>simp[SV.noOwns,SV.noOwn,ih]
   obtain⟨_,rfl⟩:=ar.to_S _ _ _ (s2 caps) s6
   rw[Tg] at v5 s0 r4 R
   unfold takes at H
   cases s4 with
   |none=>
    simp only at H
    split at H
    ·rename_i h0
     simp only[SN] at H;subst H
     obtain⟨s9,j,_,_⟩:=hr.called i T v5 r4 R k
     exact hn _ _ _ _ _ j hK
    ·cases H
   |some d=>
    simp only at H
    split at H
    ·rename_i h0
     simp only[SN] at H;subst H
     obtain⟨s9,j,h7,_⟩:=hr.called i T v5 r4 R k
     obtain⟨hs,_⟩:=aQ.to_S _ _ _ (Dy C h0).1 s0
     exact hn _ _ _ _ _ (j.putS (dst:=d) (by simpa using h2) ((hs.kappa _ _ N).ext (lA.shrink h7))) hK
    ·split at H
     ·rename_i h0 h1
      split at H
      ·rename_i m vv u5
       split at H
       ·rename_i ch mk s3
        simp only[SN] at H;subst H
        obtain⟨u,hO,s5⟩:=HM C v I m vv N h1 u5 s0
        obtain⟨s,r8⟩:=Dw hO s3
        obtain⟨s9,j,h7⟩:=hr.called2 i T v5 r4 R k (dst:=d) (u:=u) (ch:=ch) s ((sd hO.shape s3 (by rw[au])).2 hO)
        exact hn _ _ _ _ _ (j.putS (dst:=d) (by simpa using h2) ((s5 _ _ (r8 _ d (by rw[au]))).ext (lA.shrink h7))) hK
       ·cases H
      ·cases H
     ·cases H
  ·cases E
 |g _ _ _ _=>simp[eD] at Z
theorem Dz {h:Nat->Ch}:∀ {xs:List SV} {O:List DV},SV.toDVs xs=some O->HandL h xs (O.map .d) (O.map .d) []
 |[],O,hd=>by simp only[SV.toDVs,SN] at hd;subst hd;exact .nil
 |x::xs,O,hd=>by
  unfold SV.toDVs at hd
  split at hd
  ·rename_i d i h1 h2
   simp only[SN] at hd;subst hd
   exact .data h1 (Dz h2)
  ·cases hd
theorem SL {f:SX} {args:List SX} {late:List (Nat×Nat×wh)} (h:AO P (.q d f args late) σ K):AO P (.p (some d) f args) σ K:=by
 simp only[AO] at h⊢
 obtain⟨D,ins,outs,C,L,X,h1,E,h4,h2,h5,_,h7⟩:=h
 exact⟨σ,cS.refl _,D,[],ins,outs,C,L,X,h1,by simpa using E,h4,h2,h5,h7⟩
theorem JT {ops:Array Oper} (hr:cH c σ κ φ a w) (Z:eD P c.N o so=true) (h:AO P so σ K) (hn:∀ X W h6 a' w',cH c X W h6 a' w'->K X->next a' w'):o.wp P a w next Q:=by
 cases hq:R8 so with
 |false=>exact HO (ops:=ops) hr hq Z h hn
 |true=>
  cases so<;>simp[R8] at hq
  rename_i d f args late
  exact HO (ops:=ops) (so:= .p (some d) f args) hr rfl (by simpa only[eD] using Z) (SL h) hn
theorem DA {N:Nat} (h:eD P N o so=true) (hd:o.dst=some d):d<N:=by
 cases so with
 |r dst op=>simp only[eD,SR,S1,SU,hd,SN] at h;omega
 |o dst op=>simp only[eD,SR,S1,SU,hd,SN] at h;omega
 |c dst f args=>simp only[eD,SR,S1,SU,hd,SN] at h;omega
 |p dst f args=>
  simp only[eD,SR,S1,hd] at h
  obtain⟨⟨rfl,h2⟩,_⟩:=h
  simpa using h2
 |w e op=>cases op<;>simp[eD,mJ,hd] at h<;>omega
 |x e op _=>cases op<;>simp[eD,mJ,hd] at h<;>omega
 |q e f args _=>
  simp only[eD,SR,S1,SU,hd,SN] at h;omega
 |g _ _ _ _=>simp[eD] at h
theorem HP (hr:cH c σ κ φ a w) {b:Bool} (hj:(ops[j]?).bind (·.dst)=some t) (Y:t<c.N) (hs:σ.s t= .d (.bool b)):yielded ops a.tmps j=some b:=by
 have:=hr.slots t Y
 rw[hs] at this
 simp only[ah,ba] at this
 have h9:t<a.tmps.size:=by rw[hr.ntmps];exact Y
 have hg:a.tmps[t]?=some (.bool b):=by
  simp only[TD] at this
  rw[Ug h9] at this⊢
  simpa using this
 unfold yielded
 simp[hj,hg]
theorem I6 (hr:cH c σ κ φ a w) (hj:(ops[j]?).bind (·.dst)=some t) (Y:t<c.N) (hs:σ.s t= .d (.tup [])):yielded ops a.tmps j=none:=by
 have:=hr.slots t Y
 rw[hs] at this
 simp only[ah,ba,aN] at this
 obtain⟨vs,this,rfl⟩:=this
 have h9:t<a.tmps.size:=by rw[hr.ntmps];exact Y
 have hg:a.tmps[t]?=some (.tuple #[]):=by
  simp only[TD] at this
  rw[Ug h9] at this⊢
  simpa using this
 unfold yielded
 simp[hj,hg]
theorem ym (hr:cH c σ κ φ a w) (Z:l6 P c.N ops o so=true) (h:AO P so σ K) (hn:∀ X W h6 a' w',cH c X W h6 a' w'->K X->next a' w'):if Region.wanted o (yielded ops a.tmps) then o.wp P a w next Q\/(o.asks P a w/\LetsOut Q) else next (a.put o.dst undef) w:=by
 have plain:o.guard=none->eD P c.N o so=true->if Region.wanted o (yielded ops a.tmps) then o.wp P a w next Q\/(o.asks P a w/\LetsOut Q) else next (a.put o.dst undef) w:=fun hg hu=>by
  have:Region.wanted o (yielded ops a.tmps)=true:=by simp[Region.wanted,hg]
  rw[this,Ub rfl]
  exact .inl (JT (ops:=ops) hr hu h hn)
 have split:∀ so,l6 P c.N ops o so=true->(∀ t want dst I,so≠ .g t want dst I)->o.guard=none/\eD P c.N o so=true:=fun so Z A=>by
  cases so with
  |g t want dst I=>exact absurd rfl (A t want dst I)
  |_=>simpa[l6] using Z
 cases so with
 |g t want dst I=>
  simp only[l6,SR,S1] at Z
  obtain⟨⟨h1,h2⟩,E⟩:=Z
  split at h1
  ·rename_i j e hg
   simp only[SR,S1,SU] at h1
   obtain⟨⟨rfl,h4⟩,h5⟩:=h1
   simp only[AO] at h
   split at h
   ·rename_i b hs
    have hy:=HP (ops:=ops) hr h4 h5 hs
    by_cases hb:b=e
    ·have:Region.wanted o (yielded ops a.tmps)=true:=by simp[Region.wanted,hg,hy,hb]
     rw[this,Ub rfl]
     exact .inl (JT (ops:=ops) hr E (h.1 hb) hn)
    ·have:Region.wanted o (yielded ops a.tmps)=false:=by simp[Region.wanted,hg,hy,hb]
     rw[this]
     simp only[Tj,Tv]
     have hK:=h.2 (by cases b<;>cases e<;>simp_all)
     rw[h2]
     cases dst with
     |none=>exact hn _ _ _ _ _ hr hK
     |some d=>exact hn _ _ _ _ _ (hr.putS (DA E h2) (by simp[ah,ba,aN,undef])) hK
   ·rename_i hs
    have hy:=I6 (ops:=ops) hr h4 h5 hs
    have:Region.wanted o (yielded ops a.tmps)=false:=by simp[Region.wanted,hg,hy]
    rw[this]
    simp only[Tj,Tv]
    rw[h2]
    cases dst with
    |none=>exact hn _ _ _ _ _ hr h
    |some d=>exact hn _ _ _ _ _ (hr.putS (DA E h2) (by simp[ah,ba,aN,undef])) h
   ·exact h.elim
  ·cases h1
 |r dst op=>obtain⟨h1,h2⟩:=split _ Z oS;exact plain h1 h2
 |c dst f args=>obtain⟨h1,h2⟩:=split _ Z oS;exact plain h1 h2
 |w d op=>obtain⟨h1,h2⟩:=split _ Z oS;exact plain h1 h2
 |o d op=>obtain⟨h1,h2⟩:=split _ Z oS;exact plain h1 h2
 |p d f args=>obtain⟨h1,h2⟩:=split _ Z oS;exact plain h1 h2
 |x d op late=>obtain⟨h1,h2⟩:=split _ Z oS;exact plain h1 h2
 |q d f args late=>obtain⟨h1,h2⟩:=split _ Z oS;exact plain h1 h2
theorem yo {ops:Array Oper} {K:St->Prop} {Q:Exit->Act->World->Prop} (hQ:∀ X W h6 a' w',cH c X W h6 a' w'->K X->Q .normal a' w'):
  ∀ (sos:List SO) (l:List Oper) (k:Nat) (σ:St) (κ:Nat->Value) (φ:Nat->List Nat) (a:Act) (w:World),(∀ j o,l[j]?=some o->ops[k+j]?=some o)->bh P c.N ops l sos=true->cH c σ κ φ a w->a6 P K sos σ->
  wpOps P ops Q (List.range' k l.length) a w
 |[],l,k,σ,κ,φ,a,w,hl,Z,hr,h=>by
  cases l with
  |nil=>simp only[TN,List.range'_zero,wpOps];exact hQ _ _ _ _ _ hr h
  |cons _ _=>simp[bh] at Z
 |so::sos,l,k,σ,κ,φ,a,w,hl,Z,hr,h=>by
  cases l with
  |nil=>simp[bh] at Z
  |cons o l=>
   simp only[bh,SR] at Z
   simp only[S6,List.range'_succ,wpOps]
   have ho:ops[k]?=some o:=by simpa using hl 0 o oS
   simp only[ho]
   simp only[a6] at h
   exact ym hr Z.1 h fun X W h6 a' w' r1 hk=>yo hQ sos l (k+1) X W h6 a' w' (fun j o' hj=>by
    have:=hl (j+1) o' (by simpa using hj)
    rw[show k+1+j=k+(j+1) by omega];exact this) Z.2 r1 hk
theorem GI {id:Nat} {sos:List SO} (hQ:∀ X W h6 a' w',cH c X W h6 a' w'->K X->Q .normal a' w') (Z:bh P c.N ops ops.toList sos=true) (hr:cH c σ κ φ a w) (h:a6 P K sos σ):
  (Code.region id ops false).wp P Q a w:=by
 refine wp_region ?_
 have:=yo (P:=P) (ops:=ops) hQ sos ops.toList 0 σ κ φ a w (fun j o hj=>by simpa using hj) Z hr h
 simpa[UX] using this
end
