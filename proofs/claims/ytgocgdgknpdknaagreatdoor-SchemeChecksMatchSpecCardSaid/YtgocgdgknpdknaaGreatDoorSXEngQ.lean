/-
  My text.
-/
import Derived.Test.YtgocgdgknpdknaaGreatDoorSXEngJ
namespace Go.Proofs.YtgocgdgknpdknaaGreatDoor
set_option linter.unusedVariables false
open Go.RowKit
def hY (σ σ':St):Prop:=∀ (c:Cx) (κ:Nat->Value) (φ:Nat->List Nat) (a:Act) (w:World),bT c σ κ φ a w->∃ κ' φ',bT c σ' κ' φ' a w
theorem hY.refl (σ:St):hY σ σ:=fun _ κ φ _ _ h=>⟨κ,φ,h⟩
theorem hY.trans {σ σ' σ'':St} (h:hY σ σ') (k:hY σ' σ''):hY σ σ'':=fun c κ φ a w hr=>by
 obtain⟨κ',φ',hr'⟩:=h c κ φ a w hr
 exact k c κ' φ' a w hr'
mutual
def SV.nOwn:SV->Nat
 | .own _ _=>1
 | .agg cs=>SV.nOwns cs
 | .tup cs=>SV.nOwns cs
 | .d _=>0
 | .nils=>0
 | .lit _ _ _=>0
 | .ref _ _=>0
 | .vec _=>0
 | .vref _ _ _ _=>0
 | .mp _=>0
def SV.nOwns:List SV->Nat
 |[]=>0
 |c::cs=>SV.nOwn c+SV.nOwns cs
end
mutual
def SV.own1:SV->Option (bQ×DV)
 | .own m v=>some (m,v)
 | .agg cs=>SV.own1s cs
 | .tup cs=>SV.own1s cs
 | .d _=>none
 | .nils=>none
 | .lit _ _ _=>none
 | .ref _ _=>none
 | .vec _=>none
 | .vref _ _ _ _=>none
 | .mp _=>none
def SV.own1s:List SV->Option (bQ×DV)
 |[]=>none
 |c::cs=>match SV.own1 c with|some x=>some x|none=>SV.own1s cs
end
mutual
def SV.plug (y:SV):SV->SV
 | .own _ _=>y
 | .agg cs=> .agg (SV.plugs y cs)
 | .tup cs=> .tup (SV.plugs y cs)
 | .d v=> .d v
 | .nils=> .nils
 | .lit s n cs=> .lit s n cs
 | .ref i o=> .ref i o
 | .vec i=> .vec i
 | .vref i s k o=> .vref i s k o
 | .mp i=> .mp i
def SV.plugs (y:SV):List SV->List SV
 |[]=>[]
 |c::cs=>SV.plug y c::SV.plugs y cs
end
mutual
theorem xA:∀ (x:SV),x.nOwn=0->x.noOwn=true/\∀ y,SV.plug y x=x
 | .own _ _,h=>by simp[SV.nOwn] at h
 | .agg cs,h=>by
  obtain⟨h1,h2⟩:=sq cs (by simpa[SV.nOwn] using h)
  exact⟨by simpa[SV.noOwn] using h1,fun y=>by simp[SV.plug,h2 y]⟩
 | .tup cs,h=>by
  obtain⟨h1,h2⟩:=sq cs (by simpa[SV.nOwn] using h)
  exact⟨by simpa[SV.noOwn] using h1,fun y=>by simp[SV.plug,h2 y]⟩
 | .d _,_=>⟨rfl,fun _=>rfl⟩
 | .nils,_=>⟨rfl,fun _=>rfl⟩
 | .lit _ _ _,_=>⟨rfl,fun _=>rfl⟩
 | .ref _ _,_=>⟨rfl,fun _=>rfl⟩
 | .vec _,_=>⟨rfl,fun _=>rfl⟩
 | .vref _ _ _ _,_=>⟨rfl,fun _=>rfl⟩
 | .mp _,_=>⟨rfl,fun _=>rfl⟩
theorem sq:∀ (cs:List SV),SV.nOwns cs=0->SV.noOwns cs=true/\∀ y,SV.plugs y cs=cs
 |[],_=>⟨rfl,fun _=>rfl⟩
 |c::cs,h=>by
  simp only[SV.nOwns] at h
  obtain⟨h1,h2⟩:=xA c oM
  obtain⟨h3,h4⟩:=sq cs oM
  exact⟨by simp[SV.noOwns,h1,h3],fun y=>by simp[SV.plugs,h2 y,h4 y]⟩
end
section
variable {w:World} {M:Nat->Prop} {κ:Nat->Value}
mutual
theorem E3:∀ (x:SV),x.own1≠none->x.nOwn≠0
 | .own _ _,_=>by simp[SV.nOwn]
 | .agg cs,h=>by simp only[SV.nOwn];exact zT cs (by simpa[SV.own1] using h)
 | .tup cs,h=>by simp only[SV.nOwn];exact zT cs (by simpa[SV.own1] using h)
 | .d _,h=>by simp[SV.own1] at h
 | .nils,h=>by simp[SV.own1] at h
 | .lit _ _ _,h=>by simp[SV.own1] at h
 | .ref _ _,h=>by simp[SV.own1] at h
 | .vec _,h=>by simp[SV.own1] at h
 | .vref _ _ _ _,h=>by simp[SV.own1] at h
 | .mp _,h=>by simp[SV.own1] at h
theorem zT:∀ (cs:List SV),SV.own1s cs≠none->SV.nOwns cs≠0
 |[],h=>by simp[SV.own1s] at h
 |c::cs,h=>by
  simp only[SV.own1s] at h
  simp only[SV.nOwns]
  split at h
  ·rename_i x hx
   have:=E3 c (by rw[hx];simp)
   omega
  ·have:=zT cs h
   omega
end
mutual
theorem E4:∀ (x:SV),x.own1=none->x.nOwn=0
 | .own _ _,h=>by simp[SV.own1] at h
 | .agg cs,h=>by simp only[SV.nOwn];exact zU cs (by simpa[SV.own1] using h)
 | .tup cs,h=>by simp only[SV.nOwn];exact zU cs (by simpa[SV.own1] using h)
 | .d _,_=>rfl
 | .nils,_=>rfl
 | .lit _ _ _,_=>rfl
 | .ref _ _,_=>rfl
 | .vec _,_=>rfl
 | .vref _ _ _ _,_=>rfl
 | .mp _,_=>rfl
theorem zU:∀ (cs:List SV),SV.own1s cs=none->SV.nOwns cs=0
 |[],_=>rfl
 |c::cs,h=>by
  simp only[SV.own1s] at h
  split at h
  ·cases h
  ·rename_i hx
   simp only[SV.nOwns,E4 c hx,zU cs h]
end
mutual
theorem A4:∀ (x:SV) (v:Value) (F:List Nat) (m:bQ) (d:DV),x.closed=true->x.nOwn=1->x.own1=some (m,d)->aJ w M κ x v F->∃ u,ef w M m d u F/\∀ (κ':Nat->Value) y,ae w M κ' y u->ae w M κ' (SV.plug y x) v
 | .own m' d',v,F,m,d,_,_,ho,hr=>by
  simp only[SV.own1,JN,JQ] at ho
  obtain⟨rfl,rfl⟩:=ho
  simp only[aJ] at hr
  exact⟨v,hr,fun κ' y hy=>by simpa only[SV.plug] using hy⟩
 | .agg cs,v,F,m,d,hc,hn,ho,hr=>by
  simp only[aJ] at hr
  obtain⟨vs,rfl,h1,h2⟩:=hr
  obtain⟨u,k1,k2⟩:=u_ cs vs F m d (by simpa[SV.closed] using hc) (by simpa[SV.nOwn] using hn) (by simpa[SV.own1] using ho) h2
  exact⟨u,k1,fun κ' y hy=>by simp only[SV.plug,ae];exact⟨vs,rfl,h1,k2 κ' y hy⟩⟩
 | .tup cs,v,F,m,d,hc,hn,ho,hr=>by
  simp only[aJ] at hr
  obtain⟨vs,rfl,h2⟩:=hr
  obtain⟨u,k1,k2⟩:=u_ cs vs F m d (by simpa[SV.closed] using hc) (by simpa[SV.nOwn] using hn) (by simpa[SV.own1] using ho) h2
  exact⟨u,k1,fun κ' y hy=>by simp only[SV.plug,ae];exact⟨vs,rfl,k2 κ' y hy⟩⟩
 | .d _,_,_,_,_,_,_,ho,_=>by simp[SV.own1] at ho
 | .nils,_,_,_,_,_,_,ho,_=>by simp[SV.own1] at ho
 | .lit _ _ _,_,_,_,_,_,_,ho,_=>by simp[SV.own1] at ho
 | .ref _ _,_,_,_,_,_,_,ho,_=>by simp[SV.own1] at ho
 | .vec _,_,_,_,_,_,_,ho,_=>by simp[SV.own1] at ho
 | .vref _ _ _ _,_,_,_,_,_,_,ho,_=>by simp[SV.own1] at ho
 | .mp _,_,_,_,_,_,_,ho,_=>by simp[SV.own1] at ho
theorem u_:∀ (cs:List SV) (vs:List Value) (F:List Nat) (m:bQ) (d:DV),SV.closeds cs=true->SV.nOwns cs=1->SV.own1s cs=some (m,d)->aj w M κ cs vs F->∃ u,ef w M m d u F/\∀ (κ':Nat->Value) y,ae w M κ' y u->ai w M κ' (SV.plugs y cs) vs
 |[],_,_,_,_,_,_,ho,_=>by simp[SV.own1s] at ho
 |c::cs,vs,F,m,d,hc,hn,ho,hr=>by
  simp only[aj] at hr
  obtain⟨v,us,F1,F2,rfl,rfl,h1,h2⟩:=hr
  simp only[SV.closeds,JO] at hc
  simp only[SV.nOwns] at hn
  simp only[SV.own1s] at ho
  split at ho
  ·rename_i x hx
   simp only[JN] at ho;subst ho
   have hn1:c.nOwn≠0:=fun h0=>by
    have:∀ (x:SV),x.own1≠none->x.nOwn≠0:=E3
    exact this c (by rw[hx];simp) h0
   obtain⟨u,k1,k2⟩:=A4 c v F1 m d hc.1 oM hx h1
   obtain⟨k3,k4⟩:=sq cs oM
   obtain⟨k5,rfl⟩:=aj.to_S cs us F2 k3 h2
   refine⟨u,by simpa using k1,fun κ' y hy=> ?_⟩
   simp only[SV.plugs,ai,k4 y]
   exact⟨v,us,rfl,k2 κ' y hy,k5.kappa _ _ hc.2⟩
  ·rename_i hx
   have hn0:c.nOwn=0:=E4 c hx
   obtain⟨k3,k4⟩:=xA c hn0
   obtain⟨k5,rfl⟩:=aJ.to_S c v F1 k3 h1
   obtain⟨u,k1,k2⟩:=u_ cs us F2 m d hc.2 oM ho h2
   refine⟨u,by simpa using k1,fun κ' y hy=> ?_⟩
   simp only[SV.plugs,ai,k4 y]
   exact⟨v,us,rfl,k5.kappa _ _ hc.1,k2 κ' y hy⟩
end
end
def takes (σ:St) (L:List (Nat×Ch)) (dst:Option Nat) (res:SV):Option St:=
 match dst with
 |none=>if res.nOwn=0 then some ⟨σ.s,hE L σ.h⟩ else none
 |some d=>if res.nOwn=0 then some ⟨aI σ.s d res,hE L σ.h⟩ else if res.nOwn=1 then
   match res.own1 with
   |some (m,v)=>match b_ m v with
    |some (ch,mk)=>some ⟨aI (gE d .any σ.s) d (SV.plug (mk d) res),aI (pU d .any (hE L σ.h)) d ch⟩
    |none=>none
   |none=>none
  else none
inductive SO where
 |r (dst:Nat) (op:qK)
 |c (dst:Nat) (f:SX) (args:List SX)
 |o (dst:Nat) (op:qK)
 |w (dst:Nat) (op:Eu)
 |p (dst:Option Nat) (f:SX) (args:List SX)
 |x (dst:Nat) (op:Eu) (late:List (Nat×Nat×qK))
 |q (dst:Nat) (f:SX) (args:List SX) (late:List (Nat×Nat×qK))
 |g (t:Nat) (want:Bool) (dst:Option Nat) (o:SO)
def putS (σ:St) (dst:Option Nat) (v:SV):St:=
 match dst with
 |some d=>⟨aI σ.s d v,σ.h⟩
 |none=>σ
def HU (h:Nat->Ch) (s:Nat->SV) (op:qK):Option (Prop×SV):=
 match op with
 | .gd t want op=>match s t with
  | .d (.bool b)=>if b=want then rd h s op else some (True,.d (.tup []))
  | .d (.tup [])=>some (True,.d (.tup []))
  |_=>none
 |op=>rd h s op
theorem HV {h:Nat->Ch} {s:Nat->SV} {op:qK} {x:Prop×SV} (hr:rd h s op=some x):HU h s op=some x:=by
 cases op<;>first|exact hr|(simp only[rd] at hr;cases hr)
def yx (σ:St):List (Nat×Nat×qK)->Prop
 |[]=>True
 |(_,t,op)::l=>(match HU σ.h σ.s op with|some (p,v)=>p/\v=σ.s t|none=>False)/\yx σ l
def AO (P:Program):SO->St->(St->Prop)->Prop
 | .r dst op,σ,K=>match rd σ.h σ.s op with
  |some (p,v)=>p/\K ⟨aI σ.s dst v,σ.h⟩
  |none=>False
 | .c dst f args,σ,K=>match ev σ.s f,SV.lends σ.h (args.map (ev σ.s)) with
  | .d (.fn fid caps),some as=>∃ res,aa P fid (as++caps) res/\((SV.toDVs (args.map (ev σ.s))).isSome=true\/res.flat=true)/\K ⟨aI σ.s dst (.d res),σ.h⟩
  |_,_=>False
 | .o dst op,σ,K=>∃ σ1,hY σ σ1/\∃ p v,rd σ1.h σ1.s op=some (p,v)/\p/\K ⟨aI σ1.s dst v,σ1.h⟩
 | .w dst op,σ,K=>∃ σ1,hY σ σ1/\∃ p σ',wr σ1 dst op=some (p,σ')/\p/\K σ'
 | .p dst f args,σ,K=>∃ σ1,hY σ σ1/\∃ fid caps ins outs res L σ2,ev σ1.s f= .d (.fn fid caps)/\cr P fid (ins++caps.map .d) res (outs++caps.map .d)/\res.closed=true/\
   HandL σ1.h (args.map (ev σ1.s)) ins outs L/\takes σ1 L dst res=some σ2/\K σ2
 | .x dst op late,σ,K=>match wr σ dst op with
  |some (p,σ')=>p/\yx σ' late/\K σ'
  |none=>False
 | .q dst f args late,σ,K=>∃ fid ins outs res L σ',ev σ.s f= .d (.fn fid [])/\cr P fid ins res outs/\res.closed=true/\HandL σ.h (args.map (ev σ.s)) ins outs L/\takes σ L (some dst) res=some σ'/\yx σ' late/\K σ'
 | .g t want dst o,σ,K=>match σ.s t with
  | .d (.bool b)=>(b=want->AO P o σ K)/\(b= !want->K (putS σ dst (.d (.tup []))))
  | .d (.tup [])=>K (putS σ dst (.d (.tup [])))
  |_=>False
def aR (P:Program) (K:St->Prop):List SO->St->Prop
 |[],σ=>K σ
 |o::rest,σ=>AO P o σ (aR P K rest)
def dc (P:Program) (N:Nat) (o:Oper):SO->Bool
 | .r dst op=>o.dst==some dst&&decide (dst<N)&&bq P N o.op op
 | .o dst op=>o.dst==some dst&&decide (dst<N)&&bq P N o.op op
 | .c dst f args=>o.dst==some dst&&decide (dst<N)&&(match o.op with
  | .call {callee:= .value x,args:=as,argTypes:=_}=>ap N x f&&iL N as.toList args
  |_=>false)
 | .p dst f args=>o.dst==dst&&(match dst with|some d=>decide (d<N)|none=>true)&&(match o.op with
  | .call {callee:= .value x,args:=as,argTypes:=_}=>ap N x f&&iL N as.toList args
  |_=>false)
 | .w d op=>jy P N o.op o.dst d op
 | .x d op _=>jy P N o.op o.dst d op
 | .q d f args _=>o.dst==some d&&decide (d<N)&&(match o.op with
  | .call {callee:= .value x,args:=as,argTypes:=_}=>ap N x f&&iL N as.toList args
  |_=>false)
 | .g _ _ _ _=>false
def kr (P:Program) (N:Nat) (ops:Array Oper) (o:Oper):SO->Bool
 | .g t want dst so=>(match o.guard with
  |some (j,want')=>want'==want&&(ops[j]?).bind (·.dst)==some t&&decide (t<N)
  |none=>false)&&o.dst==dst&&dc P N o so
 |so=>o.guard==none&&dc P N o so
def bg (P:Program) (N:Nat) (ops:Array Oper):List Oper->List SO->Bool
 |[],[]=>true
 |o::l,so::sos=>kr P N ops o so&&bg P N ops l sos
 |_,_=>false
section
variable {P:Program} {c:Cx} {σ:St} {κ:Nat->Value} {φ:Nat->List Nat} {a:Act} {w:World}
mutual
theorem DS (h:Nat->Ch):∀ (x:SV) (d:DV),x.toDV=some d->SV.lend h x=some d
 | .d _,d,hd=>by simpa only[SV.toDV,SV.lend] using hd
 | .nils,d,hd=>by simpa only[SV.toDV,SV.lend] using hd
 | .lit _ _ _,d,hd=>by simpa only[SV.lend] using hd
 | .tup _,d,hd=>by simpa only[SV.lend] using hd
 | .agg cs,d,hd=>by
  simp only[SV.toDV] at hd
  split at hd
  ·rename_i xs hxs
   simp only[SV.lend,ig h cs xs hxs]
   exact hd
  ·cases hd
 | .ref _ _,d,hd=>by simp[SV.toDV] at hd
 | .vec _,d,hd=>by simp[SV.toDV] at hd
 | .vref _ _ _ _,d,hd=>by simp[SV.toDV] at hd
 | .mp _,d,hd=>by simp[SV.toDV] at hd
 | .own _ _,d,hd=>by simp[SV.toDV] at hd
theorem ig (h:Nat->Ch):∀ (cs:List SV) (ds:List DV),SV.toDVs cs=some ds->SV.lends h cs=some ds
 |[],ds,hd=>by simpa only[SV.toDVs,SV.lends] using hd
 |c::cs,ds,hd=>by
  simp only[SV.toDVs] at hd
  split at hd
  ·rename_i x xs hx hxs
   simp only[SV.lends,DS h c x hx,ig h cs xs hxs]
   exact hd
  ·cases hd
end
theorem A5 (hr:bT c σ κ φ a w) {o:Oper} {d:Nat} {op:Eu} (hm:jy P c.N o.op o.dst d op=true) {p:Prop} {σ':St} (hw:wr σ d op=some (p,σ')) (hp:p):ic P c o a w σ':=by
 obtain⟨dst,oop,ty,pos,aft,gd⟩:=o
 simp only at hm
 cases op with
 |boxM y=>
  simp only[jy,JO,JV] at hm
  obtain⟨⟨rfl,hd⟩,hm⟩:=hm
  split at hm
  ·simp only[wr] at hw
   split at hw
   ·rename_i cs hc
    simp only[JN,JQ] at hw
    obtain⟨_,rfl⟩:=hw
    exact HK hr hm hc ty pos aft gd (by simpa using hd)
   ·cases hw
  ·obtain⟨v,i,z,rfl,hi,hz,hconst⟩:=xk hm
   simp only[wr,ev] at hw
   split at hw
   ·rename_i cs hc
    simp only[JN,JQ] at hw
    obtain⟨_,rfl⟩:=hw
    exact EL hr hi hz hconst hc ty pos aft gd (by simpa using hd)
   ·cases hw
  ·cases hm
 |st n x y=>
  simp only[jy,JO,JV] at hm
  obtain⟨rfl,hm⟩:=hm
  split at hm
  ·simp only[JO,JV] at hm
   obtain⟨⟨⟨h1,h2⟩,h3⟩,h4⟩:=hm
   simp only[wr] at hw
   split at hw
   ·rename_i id off heq
    split at hw
    ·rename_i cs vs hh hv
     simp only[JN,JQ] at hw
     obtain⟨rfl,rfl⟩:=hw
     exact DK hr h1 h2 h3 h4 heq hh hv hp.1 hp.2 ty pos aft gd
    ·cases hw
   ·rename_i id sz i off heq
    split at hw
    ·rename_i e sz' rows vs hh hv
     split at hw
     ·rename_i r hrow
      simp only[JN,JQ] at hw
      obtain⟨rfl,rfl⟩:=hw
      obtain⟨rfl,hp1,hp2⟩:=hp
      exact DL hr h1 h2 h3 h4 heq hh hv hrow hp1 hp2 ty pos aft gd
     ·cases hw
    ·cases hw
   ·cases hw
  ·cases hm
 |app e sz x y=>
  simp only[jy,JO,JV] at hm
  obtain⟨⟨rfl,hd⟩,hm⟩:=hm
  split at hm
  ·rename_i args ts
   split at hm
   ·rename_i x' y' t t' hargs hts
    simp only[JO,JV] at hm
    obtain⟨⟨⟨h1,h2⟩,rfl⟩,h3⟩:=hm
    split at h3
    ·rename_i e' hu
     simp only[JO,JV] at h3
     obtain⟨rfl,h3⟩:=h3
     split at h3
     ·rename_i i hi
      simp only[JO,JV,JS] at h3
      obtain⟨⟨⟨h4,h5⟩,h6⟩,h7⟩:=h3
      split at h7
      ·rename_i z hz
       simp only[JV] at h7
       simp only[wr] at hw
       have hx:=ag hr h1
       split at hw
       ·rename_i id rows2 heq hyd
        rw[heq] at hx
        simp only[ae] at hx
        split at hw
        ·rename_i e2 sz2 rows hh
         simp only[JN,JQ] at hw
         obtain⟨rfl,rfl⟩:=hw
         obtain⟨rfl,rfl,hall,hlim⟩:=hp
         have hch:=hr.chunks id
         rw[hh] at hch
         simp only[kg] at hch
         exact vX hr hargs hts hu hi h4 h5 h6 hz h7 h2 hyd hall hlim (by rw[hx];exact hch) ty pos aft gd (by simpa using hd)
        ·cases hw
       ·rename_i rows2 heq hyd
        rw[heq] at hx
        simp only[ae] at hx
        simp only[JN,JQ] at hw
        obtain⟨rfl,rfl⟩:=hw
        obtain⟨hall,hlim⟩:=hp
        have hr':bT c ⟨σ.s,aI σ.h d .dead⟩ κ (aI φ d []) a w:=hr.drop d
        have:=vX (id:=d) (rows:=[]) hr' hargs hts hu hi h4 h5 h6 hz h7 h2 hyd hall (by simpa using hlim) (by rw[hx];exact⟨[],[],World.ownsRow_nil w 0 e' sz,by simp,by simp,by simp[aj],by rw[am];rfl⟩) ty pos aft gd (by simpa using hd) (d:=d)
        simp only[Kd] at this
        have e3:bS ⟨σ.s,aI σ.h d .dead⟩ d d e' sz rows2=bS σ d d e' sz rows2:=by
         unfold bS St.swap
         simp only[St.mk.injEq,true_and]
         funext j
         by_cases hj:j=d
         ·subst hj;rw[am,am]
         ·rw[bd _ _ _ _ hj,bd _ _ _ _ hj];simp only[pU,bd _ _ _ _ hj]
        rw[e3] at this
        exact this
       ·rename_i sz' n cs rows2 heq hyd
        simp only[JN,JQ] at hw
        obtain⟨rfl,rfl⟩:=hw
        obtain⟨rfl,hpos,hall,hlim⟩:=hp
        exact B9 hr hargs hts hu hi h4 h6 hz h7 h1 heq h2 hyd hpos hall hlim ty pos aft gd (by simpa using hd)
       ·cases hw
      ·cases h7
     ·cases h3
    ·cases h3
   ·cases hm
  ·cases hm
 |appS e x y=>
  simp only[jy,JO,JV] at hm
  obtain⟨⟨rfl,hd⟩,hm⟩:=hm
  split at hm
  ·split at hm
   ·rename_i x' y' t t' hargs hts
    simp only[JO] at hm
    obtain⟨⟨⟨h1,h2⟩,hstr⟩,h3⟩:=hm
    split at hstr
    ·rename_i hs
     split at h3
     ·rename_i e' hu
      simp only[JO,JV] at h3
      obtain⟨rfl,h3⟩:=h3
      split at h3
      ·rename_i i hi
       simp only[JO,JV] at h3
       obtain⟨⟨h4,h5⟩,h6⟩:=h3
       split at h6
       ·rename_i hz
        simp only[wr] at hw
        have hx:=ag hr h1
        have hy:=ag hr h2
        split at hw
        ·rename_i id l heq heqy
         rw[heq] at hx
         rw[heqy] at hy
         simp only[ae,aD] at hx hy
         split at hw
         ·rename_i e2 sz2 rows hh
          simp only[JN,JQ] at hw
          obtain⟨rfl,rfl⟩:=hw
          obtain⟨rfl,rfl,hlim⟩:=hp
          have hch:=hr.chunks id
          rw[hh] at hch
          simp only[kg] at hch
          exact CS hr hargs hts hu hs hi h4 h5 hz hy hlim (by rw[hx];exact hch) ty pos aft gd (by simpa using hd)
         ·cases hw
        ·rename_i l heq heqy
         rw[heq] at hx
         rw[heqy] at hy
         simp only[ae,aD] at hx hy
         simp only[JN,JQ] at hw
         obtain⟨rfl,rfl⟩:=hw
         have hlim:=hp
         have hr':bT c ⟨σ.s,aI σ.h d .dead⟩ κ (aI φ d []) a w:=hr.drop d
         have:=CS (id:=d) (rows:=[]) hr' hargs hts hu hs hi h4 h5 hz hy (by simpa using hlim) (by rw[hx];exact⟨[],[],World.ownsRow_nil w 0 e' 1,by simp,by simp,by simp[aj],by rw[am];rfl⟩) ty pos aft gd (by simpa using hd) (d:=d)
         simp only[Kd] at this
         have e3:bS ⟨σ.s,aI σ.h d .dead⟩ d d e' 1 (l.map fun b=>[SV.d (.int .u8 b.toNat)])=bS σ d d e' 1 (l.map fun b=>[SV.d (.int .u8 b.toNat)]):=by
          unfold bS St.swap
          simp only[St.mk.injEq,true_and]
          funext j
          by_cases hj:j=d
          ·subst hj;rw[am,am]
          ·rw[bd _ _ _ _ hj,bd _ _ _ _ hj];simp only[pU,bd _ _ _ _ hj]
         rw[e3] at this
         exact this
        ·cases hw
       ·cases h6
      ·cases h3
     ·cases h3
    ·cases hstr
   ·cases hm
  ·cases hm
 |mkmap kk=>
  simp only[jy,JO,JV] at hm
  obtain⟨⟨rfl,hd⟩,hm⟩:=hm
  split at hm
  ·simp only[wr,JN,JQ] at hw
   obtain⟨_,rfl⟩:=hw
   exact EN hr kk ty pos aft gd (by simpa using hd)
  ·cases hm
 |mset kk m k v=>
  simp only[jy,JO,JV] at hm
  obtain⟨rfl,hm⟩:=hm
  split at hm
  ·simp only[JO] at hm
   obtain⟨⟨⟨h1,h2⟩,h3⟩,h4⟩:=hm
   split at h4
   ·rename_i kt e ht
    simp only[JV] at h4
    simp only[wr] at hw
    split at hw
    ·rename_i id x hm' hk'
     split at hw
     ·rename_i kk' kv hh
      simp only[JN,JQ] at hw
      obtain⟨rfl,rfl⟩:=hw
      obtain⟨rfl,hf⟩:=hp
      exact Gj hr h1 h2 h3 ht h4 hm' hk' hh hf ty pos aft gd
     ·cases hw
    ·cases hw
   ·cases h4
  ·cases hm
 |bldM T e=>
  simp only[jy,JO,JV] at hm
  obtain⟨⟨rfl,hd⟩,hm⟩:=hm
  split at hm
  ·rename_i t
   simp only[JO,JV] at hm
   obtain⟨rfl,hm⟩:=hm
   split at hm
   ·rename_i i hi
    split at hm
    ·rename_i z hz
     split at hm
     ·rename_i hc
      simp only[wr,JN,JQ] at hw
      obtain⟨_,rfl⟩:=hw
      exact HJ hr hi hz hc ty pos aft gd (by simpa using hd)
     ·cases hm
    ·cases hm
   ·cases hm
  ·cases hm
 |mkS e sz zv x y=>
  simp only[jy,JO,JV] at hm
  obtain⟨⟨rfl,hd⟩,hm⟩:=hm
  split at hm
  ·simp only[JO] at hm
   obtain⟨⟨h1,h2⟩,h3⟩:=hm
   split at h3
   ·rename_i e' he
    simp only[JO,JV] at h3
    obtain⟨rfl,h3⟩:=h3
    split at h3
    ·rename_i i hi
     simp only[JO,JV,JS] at h3
     obtain⟨⟨⟨h4,h5⟩,h6⟩,h7⟩:=h3
     split at h7
     ·rename_i z hz
      simp only[JO,JV] at h7
      simp only[wr] at hw
      split at hw
      ·rename_i cs k1 n k2 m hc hx hy
       simp only[JN,JQ] at hw
       obtain⟨rfl,rfl⟩:=hw
       obtain⟨hcs,h8,h9,h10⟩:=hp
       exact HM hr he hi h4 h5 h6 hz h7.1 h7.2 hc h1 h2 hx hy hcs h8 h9 h10 ty pos aft gd (by simpa using hd)
      ·cases hw
     ·cases h7
    ·cases h3
   ·cases h3
  ·cases hm
 |slM e sz xs=>
  simp only[jy,JO,JV] at hm
  obtain⟨⟨rfl,hd⟩,hm⟩:=hm
  split at hm
  ·simp only[JO,JV] at hm
   obtain⟨⟨h1,h2⟩,h3⟩:=hm
   obtain⟨hrep,hidx⟩:=ti hr h2
   split at h3
   ·rename_i e' he
    simp only[JO,JV] at h3
    obtain⟨rfl,h3⟩:=h3
    split at h3
    ·rename_i i hi
     simp only[JO,JV,JS] at h3
     obtain⟨⟨⟨h4,h5⟩,h6⟩,h7⟩:=h3
     split at h7
     ·rename_i z hz
      simp only[JV] at h7
      simp only[wr] at hw
      split at hw
      ·rename_i rows hrows
       simp only[JN,JQ] at hw
       obtain⟨_,rfl⟩:=hw
       have:=HL hr he hi h4 h5 h6 hz h7 h1 hrep (fun j q hj=>by simpa using hidx j q hj) hrows ty pos aft gd (by simpa using hd)
       simpa using this
      ·cases hw
     ·cases h7
    ·cases h3
   ·cases h3
  ·cases hm
 |trunc sz y h=>
  simp only[jy,JO,JV] at hm
  obtain⟨⟨rfl,hd⟩,hm⟩:=hm
  split at hm
  ·simp only[JO] at hm
   obtain⟨⟨h1,h2⟩,h3⟩:=hm
   split at h3
   ·rename_i e he
    simp only[JO,JV,JS] at h3
    obtain⟨⟨h4,h5⟩,h6⟩:=h3
    simp only[wr] at hw
    split at hw
    ·rename_i id k n hx hn
     split at hw
     ·rename_i e' sz' rows hh
      simp only[JN,JQ] at hw
      obtain⟨rfl,rfl⟩:=hw
      obtain⟨rfl,h0,hle⟩:=hp
      exact EM hr he h4 h5 h1 h2 hx hn hh h0 hle ty pos aft gd (by simpa using hd)
     ·cases hw
    ·cases hw
   ·cases h3
  ·cases hm
theorem E5 {h:Nat->Ch} {xs ins outs:List SV} {L:List (Nat×Ch)} (hh:HandL h xs ins outs L):outs.length=xs.length:=by
 induction hh<;>simp_all
theorem yY {x:Operand} {f:FuncId} {args:Array Operand} {ts:Array TypeId} {caps:List Value} (hx:a.eval x= .func (.func f) #[] caps.toArray) (hf:lN P f=true) (dst:Option Tmp) (ty:TypeId) (pos:String) (aft:Array Edge) (gd:Option (Nat×Bool)):
  (execOp a.eval ⟨dst,.call {callee:= .value x,args,argTypes:=ts},ty,pos,aft,gd⟩).run P w= .ok (.enter f (args.toList.map a.eval++caps).toArray) w:=by
 unfold lN at hf
 cases hfn:P.funcs[f]? with
 |none=>simp[hfn] at hf
 |some fn=>
  simp only[hfn,JO,bne_iff_ne,ne_eq] at hf
  obtain⟨h1,h2⟩:=hf
  have e:(args.map a.eval)++caps.toArray=(args.toList.map a.eval++caps).toArray:=by
   rw[<-KA];simp
  have h3:(fn.name== "runtime.NumGoroutine")=false:=by simpa using h2
  have h4:fn.body.isNone=false:=by cases hb:fn.body<;>simp_all
  simp only[execOp,resolve,hx,Deferred.ofValue,Sem.run_bind,Sem.run_pure,Result.andThen_ok,invoke,callFunc,program,Sem.run,hfn,h3,h4,Kg,KG]
  simp[e]
def Je:SO->Bool
 | .q _ _ _ _=>true
 |_=>false
theorem A6 {ops:Array Oper} (hr:bT c σ κ φ a w) {o:Oper} {so:SO} (hq:Je so=false) (hm:dc P c.N o so=true) {K:St->Prop} (h:AO P so σ K) {Q:Exit->Act->World->Prop} {next:Act->World->Prop}
  (hn:∀ σ' κ' φ' a' w',bT c σ' κ' φ' a' w'->K σ'->next a' w'):o.wp P a w next Q:=by
 cases so with
 |q _ _ _ _=>simp[Je] at hq
 |r dst op=>
  simp only[dc,JO,JV,JS] at hm
  obtain⟨⟨h1,h2⟩,h3⟩:=hm
  simp only[AO] at h
  split at h
  ·rename_i p v hrd
   obtain⟨u,w',hrun,hb,hrep⟩:=AJ hr h3 hrd h.1
   unfold Oper.wp
   rw[hrun]
   simp only[Oper.upon,h1]
   exact hn _ _ _ _ _ (hr.put h2 hb hrep) h.2
  ·exact h.elim
 |o dst op=>
  simp only[dc,JO,JV,JS] at hm
  obtain⟨⟨h1,h2⟩,h3⟩:=hm
  simp only[AO] at h
  obtain⟨σ1,himp,p,v,hrd,hp,hK⟩:=h
  obtain⟨κ1,φ1,hr⟩:=himp _ _ _ _ _ hr
  obtain⟨u,w',hrun,hb,hrep⟩:=AJ hr h3 hrd hp
  unfold Oper.wp
  rw[hrun]
  simp only[Oper.upon,h1]
  exact hn _ _ _ _ _ (hr.put h2 hb hrep) hK
 |c dst f args=>
  simp only[dc,JO,JV,JS] at hm
  obtain⟨⟨h1,h2⟩,h3⟩:=hm
  simp only[AO] at h
  obtain⟨odst,oop,ty,pos,aft,gd⟩:=o
  simp only at h1 h3
  subst h1
  split at h3
  ·rename_i x as ts
   simp only[JO] at h3
   split at h
   ·rename_i fid caps ds heq heqs
    obtain⟨res,⟨hcal,hspec⟩,hflat,hK⟩:=h
    have hx:=ag hr h3.1
    rw[heq] at hx
    simp only[ae,aD] at hx
    obtain⟨cvs,hx,hcaps⟩:=hx
    have hargs:=uY hr _ _ _ (h_ hr h3.2) heqs
    unfold Oper.wp
    rw[yY (P:=P) (w:=w) (args:=as) hx hcal]
    simp only[Oper.upon]
    rcases hflat with hd|hf
    ·obtain⟨es,hes⟩:=Kz.1 hd
     have hargs':=ai.toDVs _ _ _ (h_ hr h3.2) hes
     have hee:es=ds:=by
      have key:∀ (h:Nat->Ch) (cs:List SV) (es:List DV),SV.toDVs cs=some es->SV.lends h cs=some es:=ig
      have:=key σ.h _ _ hes
      rw[heqs] at this;simpa using this.symm
     subst hee
     refine(hspec w (own c φ) _ (fun b hb=>hr.own_lt hb) (hargs'.append hcaps) hr.good).mono ?_
     rintro e w' ⟨v,rfl,hrep,hb⟩
     simp only
     exact hn _ _ _ _ _ (hr.put h2 hb (by simpa only[ae] using hrep)) hK
    ·refine(hspec w c.M0 _ (fun b hb=>Kb (hr.m0 b hb).1 hr.size) (hargs.append (hcaps.ext (kc.shrink fun b hb=> .inl hb))) hr.good).mono ?_
     rintro e w' ⟨v,rfl,hrep,hb⟩
     simp only
     exact hn _ _ _ _ _ (hr.put h2 hb (by simp only[ae];exact hrep.flat _ _ hf)) hK
   ·exact h.elim
  ·cases h3
 |w d op=>
  simp only[dc] at hm
  simp only[AO] at h
  obtain⟨σ1,himp,p,σ',hw,hp,hK⟩:=h
  obtain⟨κ1,φ1,hr⟩:=himp _ _ _ _ _ hr
  obtain⟨v,w',κ',φ',hrun,hcase⟩:=A5 hr hm hw hp
  unfold Oper.wp
  rw[hrun]
  rcases hcase with⟨u,rfl,href⟩|⟨rfl,href⟩
  ·simp only[Oper.upon];exact hn _ _ _ _ _ href hK
  ·simp only[Oper.upon];exact hn _ _ _ _ _ href hK
 |x d op late=>
  simp only[dc] at hm
  simp only[AO] at h
  split at h
  ·rename_i p σ' hw
   obtain⟨v,w',κ',φ',hrun,hcase⟩:=A5 hr hm hw h.1
   unfold Oper.wp
   rw[hrun]
   rcases hcase with⟨u,rfl,href⟩|⟨rfl,href⟩
   ·simp only[Oper.upon];exact hn _ _ _ _ _ href h.2.2
   ·simp only[Oper.upon];exact hn _ _ _ _ _ href h.2.2
  ·exact h.elim
 |p dst f args=>
  simp only[dc,JO,JV] at hm
  obtain⟨⟨h1,h2⟩,h3⟩:=hm
  simp only[AO] at h
  obtain⟨σ1,himp,fid,caps,ins,outs,res,L,σ2,heq,⟨hcal,hspec⟩,hclosed,hhand,htake,hK⟩:=h
  obtain⟨κ1,φ1,hr⟩:=himp _ _ _ _ _ hr
  obtain⟨odst,oop,ty,pos,aft,gd⟩:=o
  simp only at h1 h3
  subst h1
  split at h3
  ·rename_i x as ts
   simp only[JO] at h3
   have hx:=ag hr h3.1
   rw[heq] at hx
   simp only[ae,aD] at hx
   obtain⟨cvs,hx,hcaps⟩:=hx
   have hxs:=h_ hr h3.2
   unfold Oper.wp
   rw[yY (P:=P) (w:=w) (args:=as) hx hcal]
   simp only[Oper.upon]
   have hMF:∀ b,((own c φ1 b/\b∉fj φ1 L)\/b∈fj φ1 L)->own c φ1 b:=fun b hb=>by
    rcases hb with hb|hb
    ·exact hb.1
    ·obtain⟨id,_,hi⟩:=bm.1 hb;exact .inr ⟨id,hi⟩
   have hin:=(EQ hr (M:=fun b=>(own c φ1 b/\b∉fj φ1 L)\/b∈fj φ1 L) hMF hhand hxs).append (aj.of_S (κ:=κ0) _ _ (ai.of_d (hcaps.ext (kc.shrink hMF))))
   rw[Ka] at hin
   refine(hspec w (fun b=>own c φ1 b/\b∉fj φ1 L) _ (fj φ1 L) (fun b hb=>⟨hr.own_lt hb.1,hb.2⟩) (fun b hb=>hr.own_lt (hMF b (.inr hb))) (tk hr hhand).1 hin hr.good (fun t ht hb=>by obtain⟨id,_,hi⟩:=bm.1 hb;exact hr.free t ht hi)).mono ?_
   rintro e w' ⟨v,F1,F2,rfl,hb1,hb2,hnod,hbin,hchg⟩
   simp only
   obtain⟨G1,G2,rfl,hb3,hb4⟩:=hb1.split
   have hlen:outs.length=(as.toList.map a.eval).length:=by
    have h1:=hxs.length
    have h2:outs.length=(args.map (ev σ1.s)).length:=E5 hhand
    omega
   rw[hlen,List.take_left] at hb3
   have hcapno:∀ (l:List DV),SV.noOwns (l.map .d)=true:=fun l=>by induction l with|nil=>rfl|cons d l ih=>simp[SV.noOwns,SV.noOwn,ih]
   obtain⟨_,rfl⟩:=aj.to_S _ _ _ (hcapno caps) hb4
   rw[Ka] at hb3 hb2 hnod hbin
   unfold takes at htake
   cases odst with
   |none=>
    simp only at htake
    split at htake
    ·rename_i h0
     simp only[JN] at htake;subst htake
     obtain⟨φ2,href,_,_⟩:=hr.called hhand hxs hb3 hnod hbin hchg
     exact hn _ _ _ _ _ href hK
    ·cases htake
   |some d=>
    simp only at htake
    split at htake
    ·rename_i h0
     simp only[JN] at htake;subst htake
     obtain⟨φ2,href,hown,_⟩:=hr.called hhand hxs hb3 hnod hbin hchg
     obtain⟨hs,_⟩:=aJ.to_S _ _ _ (xA res h0).1 hb2
     exact hn _ _ _ _ _ (href.putS (dst:=d) (by simpa using h2) ((hs.kappa _ _ hclosed).ext (kc.shrink hown))) hK
    ·split at htake
     ·rename_i h0 h1
      split at htake
      ·rename_i m vv ho1
       split at htake
       ·rename_i ch mk hoc
        simp only[JN] at htake;subst htake
        obtain⟨u,hO,hplug⟩:=A4 res v F2 m vv hclosed h1 ho1 hb2
        obtain⟨hone,hmk⟩:=A3 hO hoc
        obtain⟨φ2,href,hown⟩:=hr.called2 hhand hxs hb3 hnod hbin hchg (dst:=d) (u:=u) (ch:=ch) hone ((qU hO.shape hoc (by rw[am])).2 hO)
        exact hn _ _ _ _ _ (href.putS (dst:=d) (by simpa using h2) ((hplug _ _ (hmk _ d (by rw[am]))).ext (kc.shrink hown))) hK
       ·cases htake
      ·cases htake
     ·cases htake
  ·cases h3
 |g _ _ _ _=>simp[dc] at hm
theorem JL {d:Nat} {f:SX} {args:List SX} {late:List (Nat×Nat×qK)} {K:St->Prop} (h:AO P (.q d f args late) σ K):AO P (.p (some d) f args) σ K:=by
 simp only[AO] at h⊢
 obtain⟨fid,ins,outs,res,L,σ',h1,h3,h4,h2,h5,_,h7⟩:=h
 exact⟨σ,hY.refl _,fid,[],ins,outs,res,L,σ',h1,by simpa using h3,h4,h2,h5,h7⟩
theorem C0 {ops:Array Oper} (hr:bT c σ κ φ a w) {o:Oper} {so:SO} (hm:dc P c.N o so=true) {K:St->Prop} (h:AO P so σ K) {Q:Exit->Act->World->Prop} {next:Act->World->Prop}
  (hn:∀ σ' κ' φ' a' w',bT c σ' κ' φ' a' w'->K σ'->next a' w'):o.wp P a w next Q:=by
 cases hq:Je so with
 |false=>exact A6 (ops:=ops) hr hq hm h hn
 |true=>
  cases so<;>simp[Je] at hq
  rename_i d f args late
  exact A6 (ops:=ops) (so:= .p (some d) f args) hr rfl (by simpa only[dc] using hm) (JL h) hn
theorem xB {N:Nat} {o:Oper} {so:SO} {d:Nat} (h:dc P N o so=true) (hd:o.dst=some d):d<N:=by
 cases so with
 |r dst op=>simp only[dc,JO,JV,JS,hd,JN] at h;omega
 |o dst op=>simp only[dc,JO,JV,JS,hd,JN] at h;omega
 |c dst f args=>simp only[dc,JO,JV,JS,hd,JN] at h;omega
 |p dst f args=>
  simp only[dc,JO,JV,hd] at h
  obtain⟨⟨rfl,h2⟩,_⟩:=h
  simpa using h2
 |w e op=>cases op<;>simp[dc,jy,hd] at h<;>omega
 |x e op _=>cases op<;>simp[dc,jy,hd] at h<;>omega
 |q e f args _=>
  simp only[dc,JO,JV,JS,hd,JN] at h;omega
 |g _ _ _ _=>simp[dc] at h
theorem A7 {ops:Array Oper} (hr:bT c σ κ φ a w) {j t:Nat} {b:Bool} (hj:(ops[j]?).bind (·.dst)=some t) (ht:t<c.N) (hs:σ.s t= .d (.bool b)):yielded ops a.tmps j=some b:=by
 have:=hr.slots t ht
 rw[hs] at this
 simp only[ae,aD] at this
 have hlt:t<a.tmps.size:=by rw[hr.ntmps];exact ht
 have hg:a.tmps[t]?=some (.bool b):=by
  simp only[KY] at this
  rw[KU hlt] at this⊢
  simpa using this
 unfold yielded
 simp[hj,hg]
theorem Cg {ops:Array Oper} (hr:bT c σ κ φ a w) {j t:Nat} (hj:(ops[j]?).bind (·.dst)=some t) (ht:t<c.N) (hs:σ.s t= .d (.tup [])):yielded ops a.tmps j=none:=by
 have:=hr.slots t ht
 rw[hs] at this
 simp only[ae,aD,av] at this
 obtain⟨vs,this,rfl⟩:=this
 have hlt:t<a.tmps.size:=by rw[hr.ntmps];exact ht
 have hg:a.tmps[t]?=some (.tuple #[]):=by
  simp only[KY] at this
  rw[KU hlt] at this⊢
  simpa using this
 unfold yielded
 simp[hj,hg]
theorem ug {ops:Array Oper} (hr:bT c σ κ φ a w) {o:Oper} {so:SO} (hm:kr P c.N ops o so=true) {K:St->Prop} (h:AO P so σ K) {Q:Exit->Act->World->Prop} {next:Act->World->Prop}
  (hn:∀ σ' κ' φ' a' w',bT c σ' κ' φ' a' w'->K σ'->next a' w'):if Region.wanted o (yielded ops a.tmps) then o.wp P a w next Q\/(o.asks P a w/\LetsOut Q) else next (a.put o.dst undef) w:=by
 have plain:o.guard=none->dc P c.N o so=true->if Region.wanted o (yielded ops a.tmps) then o.wp P a w next Q\/(o.asks P a w/\LetsOut Q) else next (a.put o.dst undef) w:=fun hg hu=>by
  have:Region.wanted o (yielded ops a.tmps)=true:=by simp[Region.wanted,hg]
  rw[this,Ll rfl]
  exact .inl (C0 (ops:=ops) hr hu h hn)
 have split:∀ so,kr P c.N ops o so=true->(∀ t want dst so',so≠ .g t want dst so')->o.guard=none/\dc P c.N o so=true:=fun so hm hne=>by
  cases so with
  |g t want dst so'=>exact absurd rfl (hne t want dst so')
  |_=>simpa[kr] using hm
 cases so with
 |g t want dst so'=>
  simp only[kr,JO,JV] at hm
  obtain⟨⟨h1,h2⟩,h3⟩:=hm
  split at h1
  ·rename_i j want' hg
   simp only[JO,JV,JS] at h1
   obtain⟨⟨rfl,h4⟩,h5⟩:=h1
   simp only[AO] at h
   split at h
   ·rename_i b hs
    have hy:=A7 (ops:=ops) hr h4 h5 hs
    by_cases hb:b=want'
    ·have:Region.wanted o (yielded ops a.tmps)=true:=by simp[Region.wanted,hg,hy,hb]
     rw[this,Ll rfl]
     exact .inl (C0 (ops:=ops) hr h3 (h.1 hb) hn)
    ·have:Region.wanted o (yielded ops a.tmps)=false:=by simp[Region.wanted,hg,hy,hb]
     rw[this]
     simp only[Kg,KG]
     have hK:=h.2 (by cases b<;>cases want'<;>simp_all)
     rw[h2]
     cases dst with
     |none=>exact hn _ _ _ _ _ hr hK
     |some d=>exact hn _ _ _ _ _ (hr.putS (xB h3 h2) (by simp[ae,aD,av,undef])) hK
   ·rename_i hs
    have hy:=Cg (ops:=ops) hr h4 h5 hs
    have:Region.wanted o (yielded ops a.tmps)=false:=by simp[Region.wanted,hg,hy]
    rw[this]
    simp only[Kg,KG]
    rw[h2]
    cases dst with
    |none=>exact hn _ _ _ _ _ hr h
    |some d=>exact hn _ _ _ _ _ (hr.putS (xB h3 h2) (by simp[ae,aD,av,undef])) h
   ·exact h.elim
  ·cases h1
 |r dst op=>obtain⟨h1,h2⟩:=split _ hm oS;exact plain h1 h2
 |c dst f args=>obtain⟨h1,h2⟩:=split _ hm oS;exact plain h1 h2
 |w d op=>obtain⟨h1,h2⟩:=split _ hm oS;exact plain h1 h2
 |o d op=>obtain⟨h1,h2⟩:=split _ hm oS;exact plain h1 h2
 |p d f args=>obtain⟨h1,h2⟩:=split _ hm oS;exact plain h1 h2
 |x d op late=>obtain⟨h1,h2⟩:=split _ hm oS;exact plain h1 h2
 |q d f args late=>obtain⟨h1,h2⟩:=split _ hm oS;exact plain h1 h2
theorem va {ops:Array Oper} {K:St->Prop} {Q:Exit->Act->World->Prop} (hQ:∀ σ' κ' φ' a' w',bT c σ' κ' φ' a' w'->K σ'->Q .normal a' w'):
  ∀ (sos:List SO) (l:List Oper) (k:Nat) (σ:St) (κ:Nat->Value) (φ:Nat->List Nat) (a:Act) (w:World),(∀ j o,l[j]?=some o->ops[k+j]?=some o)->bg P c.N ops l sos=true->bT c σ κ φ a w->aR P K sos σ->
  wpOps P ops Q (List.range' k l.length) a w
 |[],l,k,σ,κ,φ,a,w,hl,hm,hr,h=>by
  cases l with
  |nil=>simp only[JX,List.range'_zero,wpOps];exact hQ _ _ _ _ _ hr h
  |cons _ _=>simp[bg] at hm
 |so::sos,l,k,σ,κ,φ,a,w,hl,hm,hr,h=>by
  cases l with
  |nil=>simp[bg] at hm
  |cons o l=>
   simp only[bg,JO] at hm
   simp only[JT,List.range'_succ,wpOps]
   have ho:ops[k]?=some o:=by simpa using hl 0 o oS
   simp only[ho]
   simp only[aR] at h
   exact ug hr hm.1 h fun σ' κ' φ' a' w' hr' hk=>va hQ sos l (k+1) σ' κ' φ' a' w' (fun j o' hj=>by
    have:=hl (j+1) o' (by simpa using hj)
    rw[show k+1+j=k+(j+1) by omega];exact this) hm.2 hr' hk
theorem zV {id:Nat} {ops:Array Oper} {sos:List SO} {K:St->Prop} {Q:Exit->Act->World->Prop} (hQ:∀ σ' κ' φ' a' w',bT c σ' κ' φ' a' w'->K σ'->Q .normal a' w') (hm:bg P c.N ops ops.toList sos=true) (hr:bT c σ κ φ a w) (h:aR P K sos σ):
  (Code.region id ops false).wp P Q a w:=by
 refine wp_region ?_
 have:=va (P:=P) (ops:=ops) hQ sos ops.toList 0 σ κ φ a w (fun j o hj=>by simpa using hj) hm hr h
 simpa[List.range_eq_range'] using this
end
