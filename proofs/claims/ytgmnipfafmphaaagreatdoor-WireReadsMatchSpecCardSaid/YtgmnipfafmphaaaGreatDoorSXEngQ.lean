/-
  My text.
-/
import Derived.Test.YtgmnipfafmphaaaGreatDoorSXEngJ
namespace Go.Proofs.YtgmnipfafmphaaaGreatDoor
set_option linter.unusedVariables false
open Go.RowKit
variable {K:St->Prop} {O:St} {Q:Exit->Act->World->Prop} {d:Nat} {h:Nat->Ch} {j:Nat} {next:Act->World->Prop} {o:Oper} {ops:Array Oper} {t:Nat}
def bt (σ O:St):Prop:=∀ (c:Cx) (κ:Nat->Value) (φ:Nat->List Nat) (a:Act) (w:World),dp c σ κ φ a w->∃ W h7,dp c O W h7 a w
theorem bt.refl (σ:St):bt σ σ:=fun _ κ φ _ _ h=>⟨κ,φ,h⟩
theorem bt.trans {σ b:St} (h:bt σ O) (k:bt O b):bt σ b:=fun c κ φ a w D=>by
 obtain⟨W,h7,h8⟩:=h c κ φ a w D
 exact k c W h7 a w h8
mutual
def SV.nOwn:SV->Nat
 | .own _ _=>1
 | .agg cs=>SV.nOwns cs
 | .tup cs=>SV.nOwns cs
 | .d _=>0
 | .nils=>0
 | .lit _ _ _=>0
 | .ref _ _=>0
 | .vec _=>0
 | .vref _ _ _ _=>0
 | .mp _=>0
def SV.nOwns:List SV->Nat
 |[]=>0
 |c::cs=>SV.nOwn c+SV.nOwns cs
end
mutual
def SV.own1:SV->Option (bH×DV)
 | .own m v=>some (m,v)
 | .agg cs=>SV.own1s cs
 | .tup cs=>SV.own1s cs
 | .d _=>none
 | .nils=>none
 | .lit _ _ _=>none
 | .ref _ _=>none
 | .vec _=>none
 | .vref _ _ _ _=>none
 | .mp _=>none
def SV.own1s:List SV->Option (bH×DV)
 |[]=>none
 |c::cs=>match SV.own1 c with|some x=>some x|none=>SV.own1s cs
end
mutual
def SV.plug (y:SV):SV->SV
 | .own _ _=>y
 | .agg cs=> .agg (SV.plugs y cs)
 | .tup cs=> .tup (SV.plugs y cs)
 | .d v=> .d v
 | .nils=> .nils
 | .lit s n cs=> .lit s n cs
 | .ref i o=> .ref i o
 | .vec i=> .vec i
 | .vref i s k o=> .vref i s k o
 | .mp i=> .mp i
def SV.plugs (y:SV):List SV->List SV
 |[]=>[]
 |c::cs=>SV.plug y c::SV.plugs y cs
end
mutual
theorem Dd:∀ (x:SV),x.nOwn=0->x.noOwn=true/\∀ y,SV.plug y x=x
 | .own _ _,h=>by simp[SV.nOwn] at h
 | .agg cs,h=>by
  obtain⟨h1,h2⟩:=xl cs (by simpa[SV.nOwn] using h)
  exact⟨by simpa[SV.noOwn] using h1,fun y=>by simp[SV.plug,h2 y]⟩
 | .tup cs,h=>by
  obtain⟨h1,h2⟩:=xl cs (by simpa[SV.nOwn] using h)
  exact⟨by simpa[SV.noOwn] using h1,fun y=>by simp[SV.plug,h2 y]⟩
 | .d _,_=>⟨rfl,fun _=>rfl⟩
 | .nils,_=>⟨rfl,fun _=>rfl⟩
 | .lit _ _ _,_=>⟨rfl,fun _=>rfl⟩
 | .ref _ _,_=>⟨rfl,fun _=>rfl⟩
 | .vec _,_=>⟨rfl,fun _=>rfl⟩
 | .vref _ _ _ _,_=>⟨rfl,fun _=>rfl⟩
 | .mp _,_=>⟨rfl,fun _=>rfl⟩
theorem xl:∀ (cs:List SV),SV.nOwns cs=0->SV.noOwns cs=true/\∀ y,SV.plugs y cs=cs
 |[],_=>⟨rfl,fun _=>rfl⟩
 |c::cs,h=>by
  simp only[SV.nOwns] at h
  obtain⟨h1,h2⟩:=Dd c oM
  obtain⟨E,h4⟩:=xl cs oM
  exact⟨by simp[SV.noOwns,h1,E],fun y=>by simp[SV.plugs,h2 y,h4 y]⟩
end
section
variable {w:World} {M:Nat->Prop} {κ:Nat->Value}
mutual
theorem Nj:∀ (x:SV),x.own1≠none->x.nOwn≠0
 | .own _ _,_=>by simp[SV.nOwn]
 | .agg cs,h=>by simp only[SV.nOwn];exact GH cs (by simpa[SV.own1] using h)
 | .tup cs,h=>by simp only[SV.nOwn];exact GH cs (by simpa[SV.own1] using h)
 | .d _,h=>by simp[SV.own1] at h
 | .nils,h=>by simp[SV.own1] at h
 | .lit _ _ _,h=>by simp[SV.own1] at h
 | .ref _ _,h=>by simp[SV.own1] at h
 | .vec _,h=>by simp[SV.own1] at h
 | .vref _ _ _ _,h=>by simp[SV.own1] at h
 | .mp _,h=>by simp[SV.own1] at h
theorem GH:∀ (cs:List SV),SV.own1s cs≠none->SV.nOwns cs≠0
 |[],h=>by simp[SV.own1s] at h
 |c::cs,h=>by
  simp only[SV.own1s] at h
  simp only[SV.nOwns]
  split at h
  ·rename_i x hx
   have:=Nj c (by rw[hx];simp)
   omega
  ·have:=GH cs h
   omega
end
mutual
theorem Nk:∀ (x:SV),x.own1=none->x.nOwn=0
 | .own _ _,h=>by simp[SV.own1] at h
 | .agg cs,h=>by simp only[SV.nOwn];exact GI cs (by simpa[SV.own1] using h)
 | .tup cs,h=>by simp only[SV.nOwn];exact GI cs (by simpa[SV.own1] using h)
 | .d _,_=>rfl
 | .nils,_=>rfl
 | .lit _ _ _,_=>rfl
 | .ref _ _,_=>rfl
 | .vec _,_=>rfl
 | .vref _ _ _ _,_=>rfl
 | .mp _,_=>rfl
theorem GI:∀ (cs:List SV),SV.own1s cs=none->SV.nOwns cs=0
 |[],_=>rfl
 |c::cs,h=>by
  simp only[SV.own1s] at h
  split at h
  ·cases h
  ·rename_i hx
   simp only[SV.nOwns,Nk c hx,GI cs h]
end
mutual
theorem H1:∀ (x:SV) (v:Value) (F:List Nat) (m:bH) (d:DV),x.closed=true->x.nOwn=1->x.own1=some (m,d)->aT w M κ x v F->∃ u,f8 w M m d u F/\∀ (W:Nat->Value) y,al w M W y u->al w M W (SV.plug y x) v
 | .own m' d',v,F,m,d,_,_,ho,D=>by
  simp only[SV.own1,Vi,Vm] at ho
  obtain⟨rfl,rfl⟩:=ho
  simp only[aT] at D
  exact⟨v,D,fun W y hy=>by simpa only[SV.plug] using hy⟩
 | .agg cs,v,F,m,d,hc,hn,ho,D=>by
  simp only[aT] at D
  obtain⟨vs,rfl,h1,h2⟩:=D
  obtain⟨u,k1,k2⟩:=Ak cs vs F m d (by simpa[SV.closed] using hc) (by simpa[SV.nOwn] using hn) (by simpa[SV.own1] using ho) h2
  exact⟨u,k1,fun W y hy=>by simp only[SV.plug,al];exact⟨vs,rfl,h1,k2 W y hy⟩⟩
 | .tup cs,v,F,m,d,hc,hn,ho,D=>by
  simp only[aT] at D
  obtain⟨vs,rfl,h2⟩:=D
  obtain⟨u,k1,k2⟩:=Ak cs vs F m d (by simpa[SV.closed] using hc) (by simpa[SV.nOwn] using hn) (by simpa[SV.own1] using ho) h2
  exact⟨u,k1,fun W y hy=>by simp only[SV.plug,al];exact⟨vs,rfl,k2 W y hy⟩⟩
 | .d _,_,_,_,_,_,_,ho,_=>by simp[SV.own1] at ho
 | .nils,_,_,_,_,_,_,ho,_=>by simp[SV.own1] at ho
 | .lit _ _ _,_,_,_,_,_,_,ho,_=>by simp[SV.own1] at ho
 | .ref _ _,_,_,_,_,_,_,ho,_=>by simp[SV.own1] at ho
 | .vec _,_,_,_,_,_,_,ho,_=>by simp[SV.own1] at ho
 | .vref _ _ _ _,_,_,_,_,_,_,ho,_=>by simp[SV.own1] at ho
 | .mp _,_,_,_,_,_,_,ho,_=>by simp[SV.own1] at ho
theorem Ak:∀ (cs:List SV) (vs:List Value) (F:List Nat) (m:bH) (d:DV),SV.closeds cs=true->SV.nOwns cs=1->SV.own1s cs=some (m,d)->az w M κ cs vs F->∃ u,f8 w M m d u F/\∀ (W:Nat->Value) y,al w M W y u->av w M W (SV.plugs y cs) vs
 |[],_,_,_,_,_,_,ho,_=>by simp[SV.own1s] at ho
 |c::cs,vs,F,m,d,hc,hn,ho,D=>by
  simp only[az] at D
  obtain⟨v,X,N,R,rfl,rfl,h1,h2⟩:=D
  simp only[SV.closeds,Vj] at hc
  simp only[SV.nOwns] at hn
  simp only[SV.own1s] at ho
  split at ho
  ·rename_i x hx
   simp only[Vi] at ho;subst ho
   have J:c.nOwn≠0:=fun h0=>by
    have:∀ (x:SV),x.own1≠none->x.nOwn≠0:=Nj
    exact this c (by rw[hx];simp) h0
   obtain⟨u,k1,k2⟩:=H1 c v N m d hc.1 oM hx h1
   obtain⟨k3,k4⟩:=xl cs oM
   obtain⟨k5,rfl⟩:=az.to_S cs X R k3 h2
   refine⟨u,by simpa using k1,fun W y hy=> ?_⟩
   simp only[SV.plugs,av,k4 y]
   exact⟨v,X,rfl,k2 W y hy,k5.kappa _ _ hc.2⟩
  ·rename_i hx
   have h4:c.nOwn=0:=Nk c hx
   obtain⟨k3,k4⟩:=Dd c h4
   obtain⟨k5,rfl⟩:=aT.to_S c v N k3 h1
   obtain⟨u,k1,k2⟩:=Ak cs X R m d hc.2 oM ho h2
   refine⟨u,by simpa using k1,fun W y hy=> ?_⟩
   simp only[SV.plugs,av,k4 y]
   exact⟨v,X,rfl,k5.kappa _ _ hc.1,k2 W y hy⟩
end
end
def takes (σ:St) (L:List (Nat×Ch)) (dst:Option Nat) (res:SV):Option St:=
 match dst with
 |none=>if res.nOwn=0 then some ⟨σ.s,l0 L σ.h⟩ else none
 |some d=>if res.nOwn=0 then some ⟨ap σ.s d res,l0 L σ.h⟩ else if res.nOwn=1 then
   match res.own1 with
   |some (m,v)=>match cP m v with
    |some (ch,mk)=>some ⟨ap (bG d .any σ.s) d (SV.plug (mk d) res),ap (bK d .any (l0 L σ.h)) d ch⟩
    |none=>none
   |none=>none
  else none
inductive SO where
 |r (dst:Nat) (op:sA)
 |c (dst:Nat) (f:SX) (args:List SX)
 |o (dst:Nat) (op:sA)
 |w (dst:Nat) (op:Pq)
 |p (dst:Option Nat) (f:SX) (args:List SX)
 |x (dst:Nat) (op:Pq) (late:List (Nat×Nat×sA))
 |q (dst:Nat) (f:SX) (args:List SX) (late:List (Nat×Nat×sA))
 |g (t:Nat) (want:Bool) (dst:Option Nat) (o:SO)
variable {so:SO}
def putS (σ:St) (dst:Option Nat) (v:SV):St:=
 match dst with
 |some d=>⟨ap σ.s d v,σ.h⟩
 |none=>σ
def QW (h:Nat->Ch) (s:Nat->SV) (op:sA):Option (Prop×SV):=
 match op with
 | .gd t want op=>match s t with
  | .d (.bool b)=>if b=want then rd h s op else some (True,.d (.tup []))
  | .d (.tup [])=>some (True,.d (.tup []))
  |_=>none
 |op=>rd h s op
theorem RL {s:Nat->SV} {op:sA} {x:Prop×SV} (D:rd h s op=some x):QW h s op=some x:=by
 cases op<;>first|exact D|(simp only[rd] at D;cases D)
def su (σ:St):List (Nat×Nat×sA)->Prop
 |[]=>True
 |(_,t,op)::l=>(match QW σ.h σ.s op with|some (p,v)=>p/\v=σ.s t|none=>False)/\su σ l
def AO (P:Program):SO->St->(St->Prop)->Prop
 | .r dst op,σ,K=>match rd σ.h σ.s op with
  |some (p,v)=>p/\K ⟨ap σ.s dst v,σ.h⟩
  |none=>False
 | .c dst f args,σ,K=>match ev σ.s f,SV.lends σ.h (args.map (ev σ.s)) with
  | .d (.fn F caps),some as=>∃ res,ac P F (as++caps) res/\((SV.toDVs (args.map (ev σ.s))).isSome=true\/res.flat=true)/\K ⟨ap σ.s dst (.d res),σ.h⟩
  |_,_=>False
 | .o dst op,σ,K=>∃ z,bt σ z/\∃ p v,rd z.h z.s op=some (p,v)/\p/\K ⟨ap z.s dst v,z.h⟩
 | .w dst op,σ,K=>∃ z,bt σ z/\∃ p O,wr z dst op=some (p,O)/\p/\K O
 | .p dst f args,σ,K=>∃ z,bt σ z/\∃ F caps ins outs res L r0,ev z.s f= .d (.fn F caps)/\bw P F (ins++caps.map .d) res (outs++caps.map .d)/\res.closed=true/\
   HandL z.h (args.map (ev z.s)) ins outs L/\takes z L dst res=some r0/\K r0
 | .x dst op late,σ,K=>match wr σ dst op with
  |some (p,O)=>p/\su O late/\K O
  |none=>False
 | .q dst f args late,σ,K=>∃ F as res O,ev σ.s f= .d (.fn F [])/\SV.toDVs (args.map (ev σ.s))=some as/\bw P F (as.map .d) res (as.map .d)/\res.closed=true/\takes σ [] (some dst) res=some O/\su O late/\K O
 | .g t want dst o,σ,K=>match σ.s t with
  | .d (.bool b)=>(b=want->AO P o σ K)/\(b= !want->K (putS σ dst (.d (.tup []))))
  | .d (.tup [])=>K (putS σ dst (.d (.tup [])))
  |_=>False
def aI (P:Program) (K:St->Prop):List SO->St->Prop
 |[],σ=>K σ
 |o::z,σ=>AO P o σ (aI P K z)
def ga (P:Program) (N:Nat) (o:Oper):SO->Bool
 | .r dst op=>o.dst==some dst&&decide (dst<N)&&c7 P N o.op op
 | .o dst op=>o.dst==some dst&&decide (dst<N)&&c7 P N o.op op
 | .c dst f args=>o.dst==some dst&&decide (dst<N)&&(match o.op with
  | .call {callee:= .value x,args:=as,argTypes:=_}=>aP N x f&&mh N as.toList args
  |_=>false)
 | .p dst f args=>o.dst==dst&&(match dst with|some d=>decide (d<N)|none=>true)&&(match o.op with
  | .call {callee:= .value x,args:=as,argTypes:=_}=>aP N x f&&mh N as.toList args
  |_=>false)
 | .w d op=>ow P N o.op o.dst d op
 | .x d op _=>ow P N o.op o.dst d op
 | .q d f args _=>o.dst==some d&&decide (d<N)&&(match o.op with
  | .call {callee:= .value x,args:=as,argTypes:=_}=>aP N x f&&mh N as.toList args
  |_=>false)
 | .g _ _ _ _=>false
def l4 (P:Program) (N:Nat) (ops:Array Oper) (o:Oper):SO->Bool
 | .g t want dst so=>(match o.guard with
  |some (j,e)=>e==want&&(ops[j]?).bind (·.dst)==some t&&decide (t<N)
  |none=>false)&&o.dst==dst&&ga P N o so
 |so=>o.guard==none&&ga P N o so
def a_ (P:Program) (N:Nat) (ops:Array Oper):List Oper->List SO->Bool
 |[],[]=>true
 |o::l,so::sos=>l4 P N ops o so&&a_ P N ops l sos
 |_,_=>false
section
variable {P:Program} {c:Cx} {σ:St} {κ:Nat->Value} {φ:Nat->List Nat} {a:Act} {w:World}
mutual
theorem LC (h:Nat->Ch):∀ (x:SV) (d:DV),x.toDV=some d->SV.lend h x=some d
 | .d _,d,hd=>by simpa only[SV.toDV,SV.lend] using hd
 | .nils,d,hd=>by simpa only[SV.toDV,SV.lend] using hd
 | .lit _ _ _,d,hd=>by simpa only[SV.lend] using hd
 | .tup _,d,hd=>by simpa only[SV.lend] using hd
 | .agg cs,d,hd=>by
  simp only[SV.toDV] at hd
  split at hd
  ·rename_i xs T
   simp only[SV.lend,l5 h cs xs T]
   exact hd
  ·cases hd
 | .ref _ _,d,hd=>by simp[SV.toDV] at hd
 | .vec _,d,hd=>by simp[SV.toDV] at hd
 | .vref _ _ _ _,d,hd=>by simp[SV.toDV] at hd
 | .mp _,d,hd=>by simp[SV.toDV] at hd
 | .own _ _,d,hd=>by simp[SV.toDV] at hd
theorem l5 (h:Nat->Ch):∀ (cs:List SV) (J:List DV),SV.toDVs cs=some J->SV.lends h cs=some J
 |[],J,hd=>by simpa only[SV.toDVs,SV.lends] using hd
 |c::cs,J,hd=>by
  simp only[SV.toDVs] at hd
  split at hd
  ·rename_i x xs hx T
   simp only[SV.lends,LC h c x hx,l5 h cs xs T]
   exact hd
  ·cases hd
end
theorem H2 (D:dp c σ κ φ a w) {op:Pq} (Z:ow P c.N o.op o.dst d op=true) {p:Prop} (G:wr σ d op=some (p,O)) (Y:p):mI P c o a w O:=by
 obtain⟨dst,v8,ty,pos,S,gd⟩:=o
 simp only at Z
 cases op with
 |boxM y=>
  simp only[ow,Vj,Vz] at Z
  obtain⟨⟨rfl,hd⟩,Z⟩:=Z
  split at Z
  ·simp only[wr] at G
   split at G
   ·rename_i cs hc
    simp only[Vi,Vm] at G
    obtain⟨_,rfl⟩:=G
    exact RC D Z hc ty pos S gd (by simpa using hd)
   ·cases G
  ·obtain⟨v,i,z,rfl,hi,hz,u7⟩:=CX Z
   simp only[wr,ev] at G
   split at G
   ·rename_i cs hc
    simp only[Vi,Vm] at G
    obtain⟨_,rfl⟩:=G
    exact M5 D hi hz u7 hc ty pos S gd (by simpa using hd)
   ·cases G
  ·cases Z
 |st n x y=>
  simp only[ow,Vj,Vz] at Z
  obtain⟨rfl,Z⟩:=Z
  split at Z
  ·simp only[Vj,Vz] at Z
   obtain⟨⟨⟨h1,h2⟩,E⟩,h4⟩:=Z
   simp only[wr] at G
   split at G
   ·rename_i id off B
    split at G
    ·rename_i cs vs hh hv
     simp only[Vi,Vm] at G
     obtain⟨rfl,rfl⟩:=G
     exact Lu D h1 h2 E h4 B hh hv Y.1 Y.2 ty pos S gd
    ·cases G
   ·rename_i id sz i off B
    split at G
    ·rename_i e R rows vs hh hv
     split at G
     ·rename_i r r9
      simp only[Vi,Vm] at G
      obtain⟨rfl,rfl⟩:=G
      obtain⟨rfl,u9,v6⟩:=Y
      exact Lv D h1 h2 E h4 B hh hv r9 u9 v6 ty pos S gd
     ·cases G
    ·cases G
   ·cases G
  ·cases Z
 |app e sz x y=>
  simp only[ow,Vj,Vz] at Z
  obtain⟨⟨rfl,hd⟩,Z⟩:=Z
  split at Z
  ·rename_i args ts
   split at Z
   ·rename_i x' y' t t' r4 r0
    simp only[Vj,Vz] at Z
    obtain⟨⟨⟨h1,h2⟩,rfl⟩,E⟩:=Z
    split at E
    ·rename_i e' hu
     simp only[Vj,Vz] at E
     obtain⟨rfl,E⟩:=E
     split at E
     ·rename_i i hi
      simp only[Vj,Vz,Vv] at E
      obtain⟨⟨⟨h4,h5⟩,h6⟩,h7⟩:=E
      split at h7
      ·rename_i z hz
       simp only[Vz] at h7
       simp only[wr] at G
       have hx:=aq D h1
       split at G
       ·rename_i id f B r8
        rw[B] at hx
        simp only[al] at hx
        split at G
        ·rename_i e2 v4 rows hh
         simp only[Vi,Vm] at G
         obtain⟨rfl,rfl⟩:=G
         obtain⟨rfl,rfl,W,K⟩:=Y
         have H:=D.chunks id
         rw[hh] at H
         simp only[lV] at H
         exact Bg D r4 r0 hu hi h4 h5 h6 hz h7 h2 r8 W K (by rw[hx];exact H) ty pos S gd (by simpa using hd)
        ·cases G
       ·rename_i f B r8
        rw[B] at hx
        simp only[al] at hx
        simp only[Vi,Vm] at G
        obtain⟨rfl,rfl⟩:=G
        obtain⟨W,K⟩:=Y
        have h8:dp c ⟨σ.s,ap σ.h d .dead⟩ κ (ap φ d []) a w:=D.drop d
        have:=Bg (id:=d) (rows:=[]) h8 r4 r0 hu hi h4 h5 h6 hz h7 h2 r8 W (by simpa using K) (by rw[hx];exact⟨[],[],World.ownsRow_nil w 0 e' sz,by simp,by simp,by simp[az],by rw[aC];rfl⟩) ty pos S gd (by simpa using hd) (d:=d)
        simp only[VC] at this
        have e3:dh ⟨σ.s,ap σ.h d .dead⟩ d d e' sz f=dh σ d d e' sz f:=by
         unfold dh St.swap
         simp only[St.mk.injEq,true_and]
         funext j
         by_cases hj:j=d
         ·subst hj;rw[aC,aC]
         ·rw[bh _ _ _ _ hj,bh _ _ _ _ hj];simp only[bK,bh _ _ _ _ hj]
        rw[e3] at this
        exact this
       ·rename_i R n cs f B r8
        simp only[Vi,Vm] at G
        obtain⟨rfl,rfl⟩:=G
        obtain⟨rfl,X,W,K⟩:=Y
        exact Jq D r4 r0 hu hi h4 h6 hz h7 h1 B h2 r8 X W K ty pos S gd (by simpa using hd)
       ·cases G
      ·cases h7
     ·cases E
    ·cases E
   ·cases Z
  ·cases Z
 |appS e x y=>
  simp only[ow,Vj,Vz] at Z
  obtain⟨⟨rfl,hd⟩,Z⟩:=Z
  split at Z
  ·split at Z
   ·rename_i x' y' t t' r4 r0
    simp only[Vj] at Z
    obtain⟨⟨⟨h1,h2⟩,s⟩,E⟩:=Z
    split at s
    ·rename_i hs
     split at E
     ·rename_i e' hu
      simp only[Vj,Vz] at E
      obtain⟨rfl,E⟩:=E
      split at E
      ·rename_i i hi
       simp only[Vj,Vz] at E
       obtain⟨⟨h4,h5⟩,h6⟩:=E
       split at h6
       ·rename_i hz
        simp only[wr] at G
        have hx:=aq D h1
        have hy:=aq D h2
        split at G
        ·rename_i id l B g
         rw[B] at hx
         rw[g] at hy
         simp only[al,bf] at hx hy
         split at G
         ·rename_i e2 v4 rows hh
          simp only[Vi,Vm] at G
          obtain⟨rfl,rfl⟩:=G
          obtain⟨rfl,rfl,K⟩:=Y
          have H:=D.chunks id
          rw[hh] at H
          simp only[lV] at H
          exact Kr D r4 r0 hu hs hi h4 h5 hz hy K (by rw[hx];exact H) ty pos S gd (by simpa using hd)
         ·cases G
        ·rename_i l B g
         rw[B] at hx
         rw[g] at hy
         simp only[al,bf] at hx hy
         simp only[Vi,Vm] at G
         obtain⟨rfl,rfl⟩:=G
         have K:=Y
         have h8:dp c ⟨σ.s,ap σ.h d .dead⟩ κ (ap φ d []) a w:=D.drop d
         have:=Kr (id:=d) (rows:=[]) h8 r4 r0 hu hs hi h4 h5 hz hy (by simpa using K) (by rw[hx];exact⟨[],[],World.ownsRow_nil w 0 e' 1,by simp,by simp,by simp[az],by rw[aC];rfl⟩) ty pos S gd (by simpa using hd) (d:=d)
         simp only[VC] at this
         have e3:dh ⟨σ.s,ap σ.h d .dead⟩ d d e' 1 (l.map fun b=>[SV.d (.int .u8 b.toNat)])=dh σ d d e' 1 (l.map fun b=>[SV.d (.int .u8 b.toNat)]):=by
          unfold dh St.swap
          simp only[St.mk.injEq,true_and]
          funext j
          by_cases hj:j=d
          ·subst hj;rw[aC,aC]
          ·rw[bh _ _ _ _ hj,bh _ _ _ _ hj];simp only[bK,bh _ _ _ _ hj]
         rw[e3] at this
         exact this
        ·cases G
       ·cases h6
      ·cases E
     ·cases E
    ·cases s
   ·cases Z
  ·cases Z
 |mkmap kk=>
  simp only[ow,Vj,Vz] at Z
  obtain⟨⟨rfl,hd⟩,Z⟩:=Z
  split at Z
  ·simp only[wr,Vi,Vm] at G
   obtain⟨_,rfl⟩:=G
   exact M7 D kk ty pos S gd (by simpa using hd)
  ·cases Z
 |mset kk m k v=>
  simp only[ow,Vj,Vz] at Z
  obtain⟨rfl,Z⟩:=Z
  split at Z
  ·simp only[Vj] at Z
   obtain⟨⟨⟨h1,h2⟩,E⟩,h4⟩:=Z
   split at h4
   ·rename_i kt e ht
    simp only[Vz] at h4
    simp only[wr] at G
    split at G
    ·rename_i id x r6 r5
     split at G
     ·rename_i v3 kv hh
      simp only[Vi,Vm] at G
      obtain⟨rfl,rfl⟩:=G
      obtain⟨rfl,C⟩:=Y
      exact Pr D h1 h2 E ht h4 r6 r5 hh C ty pos S gd
     ·cases G
    ·cases G
   ·cases h4
  ·cases Z
 |bldM T e=>
  simp only[ow,Vj,Vz] at Z
  obtain⟨⟨rfl,hd⟩,Z⟩:=Z
  split at Z
  ·rename_i t
   simp only[Vj,Vz] at Z
   obtain⟨rfl,Z⟩:=Z
   split at Z
   ·rename_i i hi
    split at Z
    ·rename_i z hz
     split at Z
     ·rename_i hc
      simp only[wr,Vi,Vm] at G
      obtain⟨_,rfl⟩:=G
      exact RB D hi hz hc ty pos S gd (by simpa using hd)
     ·cases Z
    ·cases Z
   ·cases Z
  ·cases Z
 |slM e sz xs=>
  simp only[ow,Vj,Vz] at Z
  obtain⟨⟨rfl,hd⟩,Z⟩:=Z
  split at Z
  ·simp only[Vj,Vz] at Z
   obtain⟨⟨h1,h2⟩,E⟩:=Z
   obtain⟨V,s1⟩:=ym D h2
   split at E
   ·rename_i e' he
    simp only[Vj,Vz] at E
    obtain⟨rfl,E⟩:=E
    split at E
    ·rename_i i hi
     simp only[Vj,Vz,Vv] at E
     obtain⟨⟨⟨h4,h5⟩,h6⟩,h7⟩:=E
     split at h7
     ·rename_i z hz
      simp only[Vz] at h7
      simp only[wr] at G
      split at G
      ·rename_i rows Q
       simp only[Vi,Vm] at G
       obtain⟨_,rfl⟩:=G
       have:=RD D he hi h4 h5 h6 hz h7 h1 V (fun j q hj=>by simpa using s1 j q hj) Q ty pos S gd (by simpa using hd)
       simpa using this
      ·cases G
     ·cases h7
    ·cases E
   ·cases E
  ·cases Z
 |trunc sz y h=>
  simp only[ow,Vj,Vz] at Z
  obtain⟨⟨rfl,hd⟩,Z⟩:=Z
  split at Z
  ·simp only[Vj] at Z
   obtain⟨⟨h1,h2⟩,E⟩:=Z
   split at E
   ·rename_i e he
    simp only[Vj,Vz,Vv] at E
    obtain⟨⟨h4,h5⟩,h6⟩:=E
    simp only[wr] at G
    split at G
    ·rename_i id k n hx hn
     split at G
     ·rename_i e' R rows hh
      simp only[Vi,Vm] at G
      obtain⟨rfl,rfl⟩:=G
      obtain⟨rfl,h0,s0⟩:=Y
      exact M6 D he h4 h5 h1 h2 hx hn hh h0 s0 ty pos S gd (by simpa using hd)
     ·cases G
    ·cases G
   ·cases E
  ·cases Z
theorem Nl {xs ins outs:List SV} {L:List (Nat×Ch)} (hh:HandL h xs ins outs L):outs.length=xs.length:=by
 induction hh<;>simp_all
theorem Al {x:Operand} {f:FuncId} {args:Array Operand} {ts:Array TypeId} {caps:List Value} (hx:a.eval x= .func (.func f) #[] caps.toArray) (C:mV P f=true) (dst:Option Tmp) (ty:TypeId) (pos:String) (S:Array Edge) (gd:Option (Nat×Bool)):
  (execOp a.eval ⟨dst,.call {callee:= .value x,args,argTypes:=ts},ty,pos,S,gd⟩).run P w= .ok (.enter f (args.toList.map a.eval++caps).toArray) w:=by
 unfold mV at C
 cases l:P.funcs[f]? with
 |none=>simp[l] at C
 |some fn=>
  simp only[l,Vj,bne_iff_ne,ne_eq] at C
  obtain⟨h1,h2⟩:=C
  have e:(args.map a.eval)++caps.toArray=(args.toList.map a.eval++caps).toArray:=by
   rw[<-Ws];simp
  have E:(fn.name== "runtime.NumGoroutine")=false:=by simpa using h2
  have h4:fn.body.isNone=false:=by cases hb:fn.body<;>simp_all
  simp only[execOp,resolve,hx,Deferred.ofValue,Sem.run_bind,Sem.run_pure,Result.andThen_ok,invoke,callFunc,program,Sem.run,l,E,h4,Vw,VQ]
  simp[e]
def Un:SO->Bool
 | .q _ _ _ _=>true
 |_=>false
theorem H3 {ops:Array Oper} (D:dp c σ κ φ a w) (hq:Un so=false) (Z:ga P c.N o so=true) (h:AO P so σ K) (hn:∀ O W h7 a' w',dp c O W h7 a' w'->K O->next a' w'):o.wp P a w next Q:=by
 cases so with
 |q _ _ _ _=>simp[Un] at hq
 |r dst op=>
  simp only[ga,Vj,Vz,Vv] at Z
  obtain⟨⟨h1,h2⟩,E⟩:=Z
  simp only[AO] at h
  split at h
  ·rename_i p v A
   obtain⟨u,w',U,hb,V⟩:=HL D E A h.1
   unfold Oper.wp
   rw[U]
   simp only[Oper.upon,h1]
   exact hn _ _ _ _ _ (D.put h2 hb V) h.2
  ·exact h.elim
 |o dst op=>
  simp only[ga,Vj,Vz,Vv] at Z
  obtain⟨⟨h1,h2⟩,E⟩:=Z
  simp only[AO] at h
  obtain⟨z,r6,p,v,A,Y,hK⟩:=h
  obtain⟨s0,h4,D⟩:=r6 _ _ _ _ _ D
  obtain⟨u,w',U,hb,V⟩:=HL D E A Y
  unfold Oper.wp
  rw[U]
  simp only[Oper.upon,h1]
  exact hn _ _ _ _ _ (D.put h2 hb V) hK
 |c dst f args=>
  simp only[ga,Vj,Vz,Vv] at Z
  obtain⟨⟨h1,h2⟩,E⟩:=Z
  simp only[AO] at h
  obtain⟨s4,v8,ty,pos,S,gd⟩:=o
  simp only at h1 E
  subst h1
  split at E
  ·rename_i x as ts
   simp only[Vj] at E
   split at h
   ·rename_i F caps J B u5
    obtain⟨res,⟨h6,H⟩,v2,hK⟩:=h
    have hx:=aq D E.1
    rw[B] at hx
    simp only[al,bf] at hx
    obtain⟨s8,hx,h5⟩:=hx
    have r4:=Ai D _ _ _ (kL D E.2) u5
    unfold Oper.wp
    rw[Al (P:=P) (w:=w) (args:=as) hx h6]
    simp only[Oper.upon]
    rcases v2 with hd|C
    ·obtain⟨es,y⟩:=Wo.1 hd
     have s2:=av.toDVs _ _ _ (kL D E.2) y
     have r8:es=J:=by
      have key:∀ (h:Nat->Ch) (cs:List SV) (es:List DV),SV.toDVs cs=some es->SV.lends h cs=some es:=l5
      have:=key σ.h _ _ y
      rw[u5] at this;simpa using this.symm
     subst r8
     refine(H w (own c φ) _ (fun b hb=>D.own_lt hb) (s2.append h5) D.good).mono ?_
     rintro e w' ⟨v,rfl,V,hb⟩
     simp only
     exact hn _ _ _ _ _ (D.put h2 hb (by simpa only[al] using V)) hK
    ·refine(H w c.M0 _ (fun b hb=>V_ (D.m0 b hb).1 D.size) (r4.append (h5.ext (mG.shrink fun b hb=> .inl hb))) D.good).mono ?_
     rintro e w' ⟨v,rfl,V,hb⟩
     simp only
     exact hn _ _ _ _ _ (D.put h2 hb (by simp only[al];exact V.flat _ _ C)) hK
   ·exact h.elim
  ·cases E
 |w d op=>
  simp only[ga] at Z
  simp only[AO] at h
  obtain⟨z,r6,p,O,G,Y,hK⟩:=h
  obtain⟨s0,h4,D⟩:=r6 _ _ _ _ _ D
  obtain⟨v,w',W,h7,U,h8⟩:=H2 D Z G Y
  unfold Oper.wp
  rw[U]
  rcases h8 with⟨u,rfl,j⟩|⟨rfl,j⟩
  ·simp only[Oper.upon];exact hn _ _ _ _ _ j hK
  ·simp only[Oper.upon];exact hn _ _ _ _ _ j hK
 |x d op late=>
  simp only[ga] at Z
  simp only[AO] at h
  split at h
  ·rename_i p O G
   obtain⟨v,w',W,h7,U,h8⟩:=H2 D Z G h.1
   unfold Oper.wp
   rw[U]
   rcases h8 with⟨u,rfl,j⟩|⟨rfl,j⟩
   ·simp only[Oper.upon];exact hn _ _ _ _ _ j h.2.2
   ·simp only[Oper.upon];exact hn _ _ _ _ _ j h.2.2
  ·exact h.elim
 |p dst f args=>
  simp only[ga,Vj,Vz] at Z
  obtain⟨⟨h1,h2⟩,E⟩:=Z
  simp only[AO] at h
  obtain⟨z,r6,F,caps,ins,outs,res,L,r0,B,⟨h6,H⟩,r2,i,s,hK⟩:=h
  obtain⟨s0,h4,D⟩:=r6 _ _ _ _ _ D
  obtain⟨s4,v8,ty,pos,S,gd⟩:=o
  simp only at h1 E
  subst h1
  split at E
  ·rename_i x as ts
   simp only[Vj] at E
   have hx:=aq D E.1
   rw[B] at hx
   simp only[al,bf] at hx
   obtain⟨s8,hx,h5⟩:=hx
   have T:=kL D E.2
   unfold Oper.wp
   rw[Al (P:=P) (w:=w) (args:=as) hx h6]
   simp only[Oper.upon]
   have s1:∀ b,((own c h4 b/\b∉jU h4 L)\/b∈jU h4 L)->own c h4 b:=fun b hb=>by
    rcases hb with hb|hb
    ·exact hb.1
    ·obtain⟨id,_,hi⟩:=cM.1 hb;exact .inr ⟨id,hi⟩
   have n:=(M_ D (M:=fun b=>(own c h4 b/\b∉jU h4 L)\/b∈jU h4 L) s1 i T).append (az.of_S (κ:=κ0) _ _ (av.of_d (h5.ext (mG.shrink s1))))
   rw[VL] at n
   refine(H w (fun b=>own c h4 b/\b∉jU h4 L) _ (jU h4 L) (fun b hb=>⟨D.own_lt hb.1,hb.2⟩) (fun b hb=>D.own_lt (s1 b (.inr hb))) (yo D i).1 n D.good (fun t ht hb=>by obtain⟨id,_,hi⟩:=cM.1 hb;exact D.free t ht hi)).mono ?_
   rintro e w' ⟨v,N,R,rfl,r7,s5,r3,r5,k⟩
   simp only
   obtain⟨G1,G2,rfl,v7,s9⟩:=r7.split
   have I:outs.length=(as.toList.map a.eval).length:=by
    have h1:=T.length
    have h2:outs.length=(args.map (ev z.s)).length:=Nl i
    omega
   rw[I,List.take_left] at v7
   have s3:∀ (l:List DV),SV.noOwns (l.map .d)=true:=fun l=>by induction l with|nil=>rfl|cons d l ih=>simp[SV.noOwns,SV.noOwn,ih]
   obtain⟨_,rfl⟩:=az.to_S _ _ _ (s3 caps) s9
   rw[VL] at v7 s5 r3 r5
   unfold takes at s
   cases s4 with
   |none=>
    simp only at s
    split at s
    ·rename_i h0
     simp only[Vi] at s;subst s
     obtain⟨w4,j,_,_⟩:=D.called i T v7 r3 r5 k
     exact hn _ _ _ _ _ j hK
    ·cases s
   |some d=>
    simp only at s
    split at s
    ·rename_i h0
     simp only[Vi] at s;subst s
     obtain⟨w4,j,h9,_⟩:=D.called i T v7 r3 r5 k
     obtain⟨hs,_⟩:=aT.to_S _ _ _ (Dd res h0).1 s5
     exact hn _ _ _ _ _ (j.putS (dst:=d) (by simpa using h2) ((hs.kappa _ _ r2).ext (mG.shrink h9))) hK
    ·split at s
     ·rename_i h0 h1
      split at s
      ·rename_i m vv X
       split at s
       ·rename_i ch mk s6
        simp only[Vi] at s;subst s
        obtain⟨u,hO,s7⟩:=H1 res v R m vv r2 h1 X s5
        obtain⟨r1,r9⟩:=Db hO s6
        obtain⟨w4,j,h9⟩:=D.called2 i T v7 r3 r5 k (dst:=d) (u:=u) (ch:=ch) r1 ((rR hO.shape s6 (by rw[aC])).2 hO)
        exact hn _ _ _ _ _ (j.putS (dst:=d) (by simpa using h2) ((s7 _ _ (r9 _ d (by rw[aC]))).ext (mG.shrink h9))) hK
       ·cases s
      ·cases s
     ·cases s
  ·cases E
 |g _ _ _ _=>simp[ga] at Z
theorem De {h:Nat->Ch}:∀ {xs:List SV} {J:List DV},SV.toDVs xs=some J->HandL h xs (J.map .d) (J.map .d) []
 |[],J,hd=>by simp only[SV.toDVs,Vi] at hd;subst hd;exact .nil
 |x::xs,J,hd=>by
  unfold SV.toDVs at hd
  split at hd
  ·rename_i d i h1 h2
   simp only[Vi] at hd;subst hd
   exact .data h1 (De h2)
  ·cases hd
theorem Vd {f:SX} {args:List SX} {late:List (Nat×Nat×sA)} (h:AO P (.q d f args late) σ K):AO P (.p (some d) f args) σ K:=by
 simp only[AO] at h⊢
 obtain⟨F,as,res,O,h1,h2,E,h4,h5,_,h7⟩:=h
 exact⟨σ,bt.refl _,F,[],_,_,res,[],O,h1,by simpa using E,h4,De h2,h5,h7⟩
theorem Kx {ops:Array Oper} (D:dp c σ κ φ a w) (Z:ga P c.N o so=true) (h:AO P so σ K) (hn:∀ O W h7 a' w',dp c O W h7 a' w'->K O->next a' w'):o.wp P a w next Q:=by
 cases hq:Un so with
 |false=>exact H3 (ops:=ops) D hq Z h hn
 |true=>
  cases so<;>simp[Un] at hq
  rename_i d f args late
  exact H3 (ops:=ops) (so:= .p (some d) f args) D rfl (by simpa only[ga] using Z) (Vd h) hn
theorem Df {N:Nat} (h:ga P N o so=true) (hd:o.dst=some d):d<N:=by
 cases so with
 |r dst op=>simp only[ga,Vj,Vz,Vv,hd,Vi] at h;omega
 |o dst op=>simp only[ga,Vj,Vz,Vv,hd,Vi] at h;omega
 |c dst f args=>simp only[ga,Vj,Vz,Vv,hd,Vi] at h;omega
 |p dst f args=>
  simp only[ga,Vj,Vz,hd] at h
  obtain⟨⟨rfl,h2⟩,_⟩:=h
  simpa using h2
 |w e op=>cases op<;>simp[ga,ow,hd] at h<;>omega
 |x e op _=>cases op<;>simp[ga,ow,hd] at h<;>omega
 |q e f args _=>
  simp only[ga,Vj,Vz,Vv,hd,Vi] at h;omega
 |g _ _ _ _=>simp[ga] at h
theorem H4 (D:dp c σ κ φ a w) {b:Bool} (hj:(ops[j]?).bind (·.dst)=some t) (ht:t<c.N) (hs:σ.s t= .d (.bool b)):yielded ops a.tmps j=some b:=by
 have:=D.slots t ht
 rw[hs] at this
 simp only[al,bf] at this
 have h9:t<a.tmps.size:=by rw[D.ntmps];exact ht
 have L:a.tmps[t]?=some (.bool b):=by
  simp only[V2] at this
  rw[WN h9] at this⊢
  simpa using this
 unfold yielded
 simp[hj,L]
theorem Jy (D:dp c σ κ φ a w) (hj:(ops[j]?).bind (·.dst)=some t) (ht:t<c.N) (hs:σ.s t= .d (.tup [])):yielded ops a.tmps j=none:=by
 have:=D.slots t ht
 rw[hs] at this
 simp only[al,bf,aM] at this
 obtain⟨vs,this,rfl⟩:=this
 have h9:t<a.tmps.size:=by rw[D.ntmps];exact ht
 have L:a.tmps[t]?=some (.tuple #[]):=by
  simp only[V2] at this
  rw[WN h9] at this⊢
  simpa using this
 unfold yielded
 simp[hj,L]
theorem xm (D:dp c σ κ φ a w) (Z:l4 P c.N ops o so=true) (h:AO P so σ K) (hn:∀ O W h7 a' w',dp c O W h7 a' w'->K O->next a' w'):if Region.wanted o (yielded ops a.tmps) then o.wp P a w next Q\/(o.asks P a w/\LetsOut Q) else next (a.put o.dst undef) w:=by
 have plain:o.guard=none->ga P c.N o so=true->if Region.wanted o (yielded ops a.tmps) then o.wp P a w next Q\/(o.asks P a w/\LetsOut Q) else next (a.put o.dst undef) w:=fun L hu=>by
  have:Region.wanted o (yielded ops a.tmps)=true:=by simp[Region.wanted,L]
  rw[this,Wy rfl]
  exact .inl (Kx (ops:=ops) D hu h hn)
 have split:∀ so,l4 P c.N ops o so=true->(∀ t want dst r3,so≠ .g t want dst r3)->o.guard=none/\ga P c.N o so=true:=fun so Z U=>by
  cases so with
  |g t want dst r3=>exact absurd rfl (U t want dst r3)
  |_=>simpa[l4] using Z
 cases so with
 |g t want dst r3=>
  simp only[l4,Vj,Vz] at Z
  obtain⟨⟨h1,h2⟩,E⟩:=Z
  split at h1
  ·rename_i j e L
   simp only[Vj,Vz,Vv] at h1
   obtain⟨⟨rfl,h4⟩,h5⟩:=h1
   simp only[AO] at h
   split at h
   ·rename_i b hs
    have hy:=H4 (ops:=ops) D h4 h5 hs
    by_cases hb:b=e
    ·have:Region.wanted o (yielded ops a.tmps)=true:=by simp[Region.wanted,L,hy,hb]
     rw[this,Wy rfl]
     exact .inl (Kx (ops:=ops) D E (h.1 hb) hn)
    ·have:Region.wanted o (yielded ops a.tmps)=false:=by simp[Region.wanted,L,hy,hb]
     rw[this]
     simp only[Vw,VQ]
     have hK:=h.2 (by cases b<;>cases e<;>simp_all)
     rw[h2]
     cases dst with
     |none=>exact hn _ _ _ _ _ D hK
     |some d=>exact hn _ _ _ _ _ (D.putS (Df E h2) (by simp[al,bf,aM,undef])) hK
   ·rename_i hs
    have hy:=Jy (ops:=ops) D h4 h5 hs
    have:Region.wanted o (yielded ops a.tmps)=false:=by simp[Region.wanted,L,hy]
    rw[this]
    simp only[Vw,VQ]
    rw[h2]
    cases dst with
    |none=>exact hn _ _ _ _ _ D h
    |some d=>exact hn _ _ _ _ _ (D.putS (Df E h2) (by simp[al,bf,aM,undef])) h
   ·exact h.elim
  ·cases h1
 |r dst op=>obtain⟨h1,h2⟩:=split _ Z oS;exact plain h1 h2
 |c dst f args=>obtain⟨h1,h2⟩:=split _ Z oS;exact plain h1 h2
 |w d op=>obtain⟨h1,h2⟩:=split _ Z oS;exact plain h1 h2
 |o d op=>obtain⟨h1,h2⟩:=split _ Z oS;exact plain h1 h2
 |p d f args=>obtain⟨h1,h2⟩:=split _ Z oS;exact plain h1 h2
 |x d op late=>obtain⟨h1,h2⟩:=split _ Z oS;exact plain h1 h2
 |q d f args late=>obtain⟨h1,h2⟩:=split _ Z oS;exact plain h1 h2
theorem Am {ops:Array Oper} {K:St->Prop} {Q:Exit->Act->World->Prop} (hQ:∀ O W h7 a' w',dp c O W h7 a' w'->K O->Q .normal a' w'):
  ∀ (sos:List SO) (l:List Oper) (k:Nat) (σ:St) (κ:Nat->Value) (φ:Nat->List Nat) (a:Act) (w:World),(∀ j o,l[j]?=some o->ops[k+j]?=some o)->a_ P c.N ops l sos=true->dp c σ κ φ a w->aI P K sos σ->
  wpOps P ops Q (List.range' k l.length) a w
 |[],l,k,σ,κ,φ,a,w,hl,Z,D,h=>by
  cases l with
  |nil=>simp only[Vp,List.range'_zero,wpOps];exact hQ _ _ _ _ _ D h
  |cons _ _=>simp[a_] at Z
 |so::sos,l,k,σ,κ,φ,a,w,hl,Z,D,h=>by
  cases l with
  |nil=>simp[a_] at Z
  |cons o l=>
   simp only[a_,Vj] at Z
   simp only[Vk,List.range'_succ,wpOps]
   have ho:ops[k]?=some o:=by simpa using hl 0 o oS
   simp only[ho]
   simp only[aI] at h
   exact xm D Z.1 h fun O W h7 a' w' h8 hk=>Am hQ sos l (k+1) O W h7 a' w' (fun j o' hj=>by
    have:=hl (j+1) o' (by simpa using hj)
    rw[show k+1+j=k+(j+1) by omega];exact this) Z.2 h8 hk
theorem GJ {id:Nat} {sos:List SO} (hQ:∀ O W h7 a' w',dp c O W h7 a' w'->K O->Q .normal a' w') (Z:a_ P c.N ops ops.toList sos=true) (D:dp c σ κ φ a w) (h:aI P K sos σ):
  (Code.region id ops false).wp P Q a w:=by
 refine wp_region ?_
 have:=Am (P:=P) (ops:=ops) hQ sos ops.toList 0 σ κ φ a w (fun j o hj=>by simpa using hj) Z D h
 simpa[List.range_eq_range'] using this
end
