/-
  My text.
-/
import Derived.Test.YteaolfcegaidpaaGreatDoorSXEngJ
namespace Go.Proofs.YteaolfcegaidpaaGreatDoor
set_option linter.unusedSimpArgs false
set_option linter.unusedVariables false
open Go.RowKit
def f0 (σ σ':St):Prop:=∀ (c:Cx) (κ:Nat->Value) (φ:Nat->List Nat) (a:Act) (w:World),ce c σ κ φ a w->∃ κ' φ',ce c σ' κ' φ' a w
theorem f0.refl (σ:St):f0 σ σ:=fun _ κ φ _ _ h=>⟨κ,φ,h⟩
theorem f0.trans {σ σ' σ'':St} (h:f0 σ σ') (k:f0 σ' σ''):f0 σ σ'':=fun c κ φ a w hr=>by
 obtain⟨κ',φ',hr'⟩:=h c κ φ a w hr
 exact k c κ' φ' a w hr'
mutual
def SV.nOwn:SV->Nat
 | .own _ _=>1
 | .agg cs=>SV.nOwns cs
 | .tup cs=>SV.nOwns cs
 | .d _=>0
 | .nils=>0
 | .lit _ _ _=>0
 | .ref _ _=>0
 | .vec _=>0
 | .vref _ _ _ _=>0
 | .mp _=>0
 | .clo _ _=>0
def SV.nOwns:List SV->Nat
 |[]=>0
 |c::cs=>SV.nOwn c+SV.nOwns cs
end
mutual
def SV.own1:SV->Option (b8×DV)
 | .own m v=>some (m,v)
 | .agg cs=>SV.own1s cs
 | .tup cs=>SV.own1s cs
 | .d _=>none
 | .nils=>none
 | .lit _ _ _=>none
 | .ref _ _=>none
 | .vec _=>none
 | .vref _ _ _ _=>none
 | .mp _=>none
 | .clo _ _=>none
def SV.own1s:List SV->Option (b8×DV)
 |[]=>none
 |c::cs=>match SV.own1 c with|some x=>some x|none=>SV.own1s cs
end
mutual
def SV.plug (y:SV):SV->SV
 | .own _ _=>y
 | .agg cs=> .agg (SV.plugs y cs)
 | .tup cs=> .tup (SV.plugs y cs)
 | .d v=> .d v
 | .nils=> .nils
 | .lit s n cs=> .lit s n cs
 | .ref i o=> .ref i o
 | .vec i=> .vec i
 | .vref i s k o=> .vref i s k o
 | .mp i=> .mp i
 | .clo f l=> .clo f l
def SV.plugs (y:SV):List SV->List SV
 |[]=>[]
 |c::cs=>SV.plug y c::SV.plugs y cs
end
mutual
theorem zN:∀ (x:SV),x.nOwn=0->x.noOwn=true/\∀ y,SV.plug y x=x
 | .own _ _,h=>by simp[SV.nOwn] at h
 | .agg cs,h=>by
  obtain⟨h1,h2⟩:=uJ cs (by simpa[SV.nOwn] using h)
  exact⟨by simpa[SV.noOwn] using h1,fun y=>by simp[SV.plug,h2 y]⟩
 | .tup cs,h=>by
  obtain⟨h1,h2⟩:=uJ cs (by simpa[SV.nOwn] using h)
  exact⟨by simpa[SV.noOwn] using h1,fun y=>by simp[SV.plug,h2 y]⟩
 | .d _,_=>⟨rfl,fun _=>rfl⟩
 | .nils,_=>⟨rfl,fun _=>rfl⟩
 | .lit _ _ _,_=>⟨rfl,fun _=>rfl⟩
 | .ref _ _,_=>⟨rfl,fun _=>rfl⟩
 | .vec _,_=>⟨rfl,fun _=>rfl⟩
 | .vref _ _ _ _,_=>⟨rfl,fun _=>rfl⟩
 | .mp _,_=>⟨rfl,fun _=>rfl⟩
 | .clo _ _,_=>⟨rfl,fun _=>rfl⟩
theorem uJ:∀ (cs:List SV),SV.nOwns cs=0->SV.noOwns cs=true/\∀ y,SV.plugs y cs=cs
 |[],_=>⟨rfl,fun _=>rfl⟩
 |c::cs,h=>by
  simp only[SV.nOwns] at h
  obtain⟨h1,h2⟩:=zN c oM
  obtain⟨h3,h4⟩:=uJ cs oM
  exact⟨by simp[SV.noOwns,h1,h3],fun y=>by simp[SV.plugs,h2 y,h4 y]⟩
end
section
variable {w:World} {M:Nat->Prop} {κ:Nat->Value}
mutual
theorem Hv:∀ (x:SV),x.own1≠none->x.nOwn≠0
 | .own _ _,_=>by simp[SV.nOwn]
 | .agg cs,h=>by simp only[SV.nOwn];exact Cl cs (by simpa[SV.own1] using h)
 | .tup cs,h=>by simp only[SV.nOwn];exact Cl cs (by simpa[SV.own1] using h)
 | .d _,h=>by simp[SV.own1] at h
 | .nils,h=>by simp[SV.own1] at h
 | .lit _ _ _,h=>by simp[SV.own1] at h
 | .ref _ _,h=>by simp[SV.own1] at h
 | .vec _,h=>by simp[SV.own1] at h
 | .vref _ _ _ _,h=>by simp[SV.own1] at h
 | .mp _,h=>by simp[SV.own1] at h
 | .clo _ _,h=>by simp[SV.own1] at h
theorem Cl:∀ (cs:List SV),SV.own1s cs≠none->SV.nOwns cs≠0
 |[],h=>by simp[SV.own1s] at h
 |c::cs,h=>by
  simp only[SV.own1s] at h
  simp only[SV.nOwns]
  split at h
  ·rename_i x hx
   have:=Hv c (by rw[hx];simp)
   omega
  ·have:=Cl cs h
   omega
end
mutual
theorem Hw:∀ (x:SV),x.own1=none->x.nOwn=0
 | .own _ _,h=>by simp[SV.own1] at h
 | .agg cs,h=>by simp only[SV.nOwn];exact Cm cs (by simpa[SV.own1] using h)
 | .tup cs,h=>by simp only[SV.nOwn];exact Cm cs (by simpa[SV.own1] using h)
 | .d _,_=>rfl
 | .nils,_=>rfl
 | .lit _ _ _,_=>rfl
 | .ref _ _,_=>rfl
 | .vec _,_=>rfl
 | .vref _ _ _ _,_=>rfl
 | .mp _,_=>rfl
 | .clo _ _,_=>rfl
theorem Cm:∀ (cs:List SV),SV.own1s cs=none->SV.nOwns cs=0
 |[],_=>rfl
 |c::cs,h=>by
  simp only[SV.own1s] at h
  split at h
  ·cases h
  ·rename_i hx
   simp only[SV.nOwns,Hw c hx,Cm cs h]
end
mutual
theorem Do:∀ (x:SV) (v:Value) (F:List Nat) (m:b8) (d:DV),x.closed=true->x.nOwn=1->x.own1=some (m,d)->aQ w M κ x v F->∃ u,fA w M m d u F/\∀ (κ':Nat->Value) y,af w M κ' y u->af w M κ' (SV.plug y x) v
 | .own m' d',v,F,m,d,_,_,ho,hr=>by
  simp only[SV.own1,L7,L_] at ho
  obtain⟨rfl,rfl⟩:=ho
  simp only[aQ] at hr
  exact⟨v,hr,fun κ' y hy=>by simpa only[SV.plug] using hy⟩
 | .agg cs,v,F,m,d,hc,hn,ho,hr=>by
  simp only[aQ] at hr
  obtain⟨vs,rfl,h1,h2⟩:=hr
  obtain⟨u,k1,k2⟩:=xC cs vs F m d (by simpa[SV.closed] using hc) (by simpa[SV.nOwn] using hn) (by simpa[SV.own1] using ho) h2
  exact⟨u,k1,fun κ' y hy=>by simp only[SV.plug,af];exact⟨vs,rfl,h1,k2 κ' y hy⟩⟩
 | .tup cs,v,F,m,d,hc,hn,ho,hr=>by
  simp only[aQ] at hr
  obtain⟨vs,rfl,h2⟩:=hr
  obtain⟨u,k1,k2⟩:=xC cs vs F m d (by simpa[SV.closed] using hc) (by simpa[SV.nOwn] using hn) (by simpa[SV.own1] using ho) h2
  exact⟨u,k1,fun κ' y hy=>by simp only[SV.plug,af];exact⟨vs,rfl,k2 κ' y hy⟩⟩
 | .d _,_,_,_,_,_,_,ho,_=>by simp[SV.own1] at ho
 | .nils,_,_,_,_,_,_,ho,_=>by simp[SV.own1] at ho
 | .lit _ _ _,_,_,_,_,_,_,ho,_=>by simp[SV.own1] at ho
 | .ref _ _,_,_,_,_,_,_,ho,_=>by simp[SV.own1] at ho
 | .vec _,_,_,_,_,_,_,ho,_=>by simp[SV.own1] at ho
 | .vref _ _ _ _,_,_,_,_,_,_,ho,_=>by simp[SV.own1] at ho
 | .mp _,_,_,_,_,_,_,ho,_=>by simp[SV.own1] at ho
 | .clo _ _,_,_,_,_,_,_,ho,_=>by simp[SV.own1] at ho
theorem xC:∀ (cs:List SV) (vs:List Value) (F:List Nat) (m:b8) (d:DV),SV.closeds cs=true->SV.nOwns cs=1->SV.own1s cs=some (m,d)->ao w M κ cs vs F->∃ u,fA w M m d u F/\∀ (κ':Nat->Value) y,af w M κ' y u->aj w M κ' (SV.plugs y cs) vs
 |[],_,_,_,_,_,_,ho,_=>by simp[SV.own1s] at ho
 |c::cs,vs,F,m,d,hc,hn,ho,hr=>by
  simp only[ao] at hr
  obtain⟨v,us,F1,F2,rfl,rfl,h1,h2⟩:=hr
  simp only[SV.closeds,L9] at hc
  simp only[SV.nOwns] at hn
  simp only[SV.own1s] at ho
  split at ho
  ·rename_i x hx
   simp only[L7] at ho;subst ho
   have hn1:c.nOwn≠0:=fun h0=>by
    have:∀ (x:SV),x.own1≠none->x.nOwn≠0:=Hv
    exact this c (by rw[hx];simp) h0
   obtain⟨u,k1,k2⟩:=Do c v F1 m d hc.1 oM hx h1
   obtain⟨k3,k4⟩:=uJ cs oM
   obtain⟨k5,rfl⟩:=ao.to_S cs us F2 k3 h2
   refine⟨u,by simpa using k1,fun κ' y hy=> ?_⟩
   simp only[SV.plugs,aj,k4 y]
   exact⟨v,us,rfl,k2 κ' y hy,k5.kappa _ _ hc.2⟩
  ·rename_i hx
   have hn0:c.nOwn=0:=Hw c hx
   obtain⟨k3,k4⟩:=zN c hn0
   obtain⟨k5,rfl⟩:=aQ.to_S c v F1 k3 h1
   obtain⟨u,k1,k2⟩:=xC cs us F2 m d hc.2 oM ho h2
   refine⟨u,by simpa using k1,fun κ' y hy=> ?_⟩
   simp only[SV.plugs,aj,k4 y]
   exact⟨v,us,rfl,k5.kappa _ _ hc.1,k2 κ' y hy⟩
end
end
def takes (σ:St) (L:List (Nat×Ch)) (dst:Option Nat) (res:SV):Option St:=
 match dst with
 |none=>if res.nOwn=0 then some ⟨σ.s,jH L σ.h⟩ else none
 |some d=>if res.nOwn=0 then some ⟨ay σ.s d res,jH L σ.h⟩ else if res.nOwn=1 then
   match res.own1 with
   |some (m,v)=>match cz m v with
    |some (ch,mk)=>some ⟨ay (eF d .any σ.s) d (SV.plug (mk d) res),ay (jz d .any (jH L σ.h)) d ch⟩
    |none=>none
   |none=>none
  else none
inductive SO where
 |r (dst:Nat) (op:sM)
 |c (dst:Nat) (f:SX) (args:List SX)
 |o (dst:Nat) (op:sM)
 |w (dst:Nat) (op:GR)
 |p (dst:Option Nat) (f:SX) (args:List SX)
 |x (dst:Nat) (op:GR) (late:List (Nat×Nat×sM))
 |q (dst:Nat) (f:SX) (args:List SX) (late:List (Nat×Nat×sM))
 |g (t:Nat) (want:Bool) (dst:Option Nat) (o:SO)
def putS (σ:St) (dst:Option Nat) (v:SV):St:=
 match dst with
 |some d=>⟨ay σ.s d v,σ.h⟩
 |none=>σ
def Kf (h:Nat->Ch) (s:Nat->SV) (op:sM):Option (Prop×SV):=
 match op with
 | .gd t want op=>match s t with
  | .d (.bool b)=>if b=want then rd h s op else some (True,.d (.tup []))
  | .d (.tup [])=>some (True,.d (.tup []))
  |_=>none
 |op=>rd h s op
theorem Kg {h:Nat->Ch} {s:Nat->SV} {op:sM} {x:Prop×SV} (hr:rd h s op=some x):Kf h s op=some x:=by
 cases op<;>first|exact hr|(simp only[rd] at hr;cases hr)
def AB (σ:St):List (Nat×Nat×sM)->Prop
 |[]=>True
 |(_,t,op)::l=>(match Kf σ.h σ.s op with|some (p,v)=>p/\v=σ.s t|none=>False)/\AB σ l
def AO (P:Program):SO->St->(St->Prop)->Prop
 | .r dst op,σ,K=>match rd σ.h σ.s op with
  |some (p,v)=>p/\K ⟨ay σ.s dst v,σ.h⟩
  |none=>False
 | .c dst f args,σ,K=>match ev σ.s f,SV.lends σ.h (args.map (ev σ.s)) with
  | .d (.fn fid caps),some as=>∃ res,aa P fid (as++caps) res/\((SV.toDVs (args.map (ev σ.s))).isSome=true\/res.flat=true)/\K ⟨ay σ.s dst (.d res),σ.h⟩
  |_,_=>False
 | .o dst op,σ,K=>∃ σ1,f0 σ σ1/\∃ p v,rd σ1.h σ1.s op=some (p,v)/\p/\K ⟨ay σ1.s dst v,σ1.h⟩
 | .w dst op,σ,K=>∃ σ1,f0 σ σ1/\∃ p σ',wr σ1 dst op=some (p,σ')/\p/\K σ'
 | .p dst f args,σ,K=>∃ σ1,f0 σ σ1/\∃ fid caps ins outs res L σ2,ev σ1.s f= .d (.fn fid caps)/\cQ P fid (ins++caps.map .d) res (outs++caps.map .d)/\res.closed=true/\
   HandL σ1.h (args.map (ev σ1.s)) ins outs L/\takes σ1 L dst res=some σ2/\K σ2
 | .x dst op late,σ,K=>match wr σ dst op with
  |some (p,σ')=>p/\AB σ' late/\K σ'
  |none=>False
 | .q dst f args late,σ,K=>∃ fid ins outs res L σ',ev σ.s f= .d (.fn fid [])/\cQ P fid ins res outs/\res.closed=true/\HandL σ.h (args.map (ev σ.s)) ins outs L/\takes σ L (some dst) res=some σ'/\AB σ' late/\K σ'
 | .g t want dst o,σ,K=>match σ.s t with
  | .d (.bool b)=>(b=want->AO P o σ K)/\(b= !want->K (putS σ dst (.d (.tup []))))
  | .d (.tup [])=>K (putS σ dst (.d (.tup [])))
  |_=>False
def ba (P:Program) (K:St->Prop):List SO->St->Prop
 |[],σ=>K σ
 |o::rest,σ=>AO P o σ (ba P K rest)
def ef (P:Program) (N:Nat) (o:Oper):SO->Bool
 | .r dst op=>o.dst==some dst&&decide (dst<N)&&bQ P N o.op op
 | .o dst op=>o.dst==some dst&&decide (dst<N)&&bQ P N o.op op
 | .c dst f args=>o.dst==some dst&&decide (dst<N)&&(match o.op with
  | .call {callee:= .value x,args:=as,argTypes:=_}=>au N x f&&j8 N as.toList args
  |_=>false)
 | .p dst f args=>o.dst==dst&&(match dst with|some d=>decide (d<N)|none=>true)&&(match o.op with
  | .call {callee:= .value x,args:=as,argTypes:=_}=>au N x f&&j8 N as.toList args
  |_=>false)
 | .w d op=>lj P N o.op o.dst d op
 | .x d op _=>lj P N o.op o.dst d op
 | .q d f args _=>o.dst==some d&&decide (d<N)&&(match o.op with
  | .call {callee:= .value x,args:=as,argTypes:=_}=>au N x f&&j8 N as.toList args
  |_=>false)
 | .g _ _ _ _=>false
def mu (P:Program) (N:Nat) (ops:Array Oper) (o:Oper):SO->Bool
 | .g t want dst so=>(match o.guard with
  |some (j,want')=>want'==want&&(ops[j]?).bind (·.dst)==some t&&decide (t<N)
  |none=>false)&&o.dst==dst&&ef P N o so
 |so=>o.guard==none&&ef P N o so
def bx (P:Program) (N:Nat) (ops:Array Oper):List Oper->List SO->Bool
 |[],[]=>true
 |o::l,so::sos=>mu P N ops o so&&bx P N ops l sos
 |_,_=>false
section
variable {P:Program} {c:Cx} {σ:St} {κ:Nat->Value} {φ:Nat->List Nat} {a:Act} {w:World}
mutual
theorem Gf (h:Nat->Ch):∀ (x:SV) (d:DV),x.toDV=some d->SV.lend h x=some d
 | .d _,d,hd=>by simpa only[SV.toDV,SV.lend] using hd
 | .nils,d,hd=>by simpa only[SV.toDV,SV.lend] using hd
 | .lit _ _ _,d,hd=>by simpa only[SV.lend] using hd
 | .tup _,d,hd=>by simpa only[SV.lend] using hd
 | .agg cs,d,hd=>by
  simp only[SV.toDV] at hd
  split at hd
  ·rename_i xs hxs
   simp only[SV.lend,jI h cs xs hxs]
   exact hd
  ·cases hd
 | .ref _ _,d,hd=>by simp[SV.toDV] at hd
 | .vec _,d,hd=>by simp[SV.toDV] at hd
 | .vref _ _ _ _,d,hd=>by simp[SV.toDV] at hd
 | .mp _,d,hd=>by simp[SV.toDV] at hd
 | .clo _ _,d,hd=>by simp[SV.toDV] at hd
 | .own _ _,d,hd=>by simp[SV.toDV] at hd
theorem jI (h:Nat->Ch):∀ (cs:List SV) (ds:List DV),SV.toDVs cs=some ds->SV.lends h cs=some ds
 |[],ds,hd=>by simpa only[SV.toDVs,SV.lends] using hd
 |c::cs,ds,hd=>by
  simp only[SV.toDVs] at hd
  split at hd
  ·rename_i x xs hx hxs
   simp only[SV.lends,Gf h c x hx,jI h cs xs hxs]
   exact hd
  ·cases hd
end
theorem Dp (hr:ce c σ κ φ a w) {o:Oper} {d:Nat} {op:GR} (hm:lj P c.N o.op o.dst d op=true) {p:Prop} {σ':St} (hw:wr σ d op=some (p,σ')) (hp:p):jG P c o a w σ':=by
 obtain⟨dst,oop,ty,pos,aft,gd⟩:=o
 simp only at hm
 cases op with
 |boxM y=>
  simp only[lj,L9,Mc] at hm
  obtain⟨⟨rfl,hd⟩,hm⟩:=hm
  split at hm
  ·simp only[wr] at hw
   split at hw
   ·rename_i cs hc
    simp only[L7,L_] at hw
    obtain⟨_,rfl⟩:=hw
    exact J6 hr hm hc ty pos aft gd (by simpa using hd)
   ·cases hw
  ·obtain⟨v,i,z,rfl,hi,hz,hconst⟩:=zt hm
   simp only[wr,ev] at hw
   split at hw
   ·rename_i cs hc
    simp only[L7,L_] at hw
    obtain⟨_,rfl⟩:=hw
    exact He hr hi hz hconst hc ty pos aft gd (by simpa using hd)
   ·cases hw
  ·cases hm
 |st n x y=>
  simp only[lj,L9,Mc] at hm
  obtain⟨rfl,hm⟩:=hm
  split at hm
  ·simp only[L9,Mc] at hm
   obtain⟨⟨⟨h1,h2⟩,h3⟩,h4⟩:=hm
   simp only[wr] at hw
   split at hw
   ·rename_i id off heq
    split at hw
    ·rename_i cs vs hh hv
     simp only[L7,L_] at hw
     obtain⟨rfl,rfl⟩:=hw
     exact F7 hr h1 h2 h3 h4 heq hh hv hp.1 hp.2 ty pos aft gd
    ·cases hw
   ·rename_i id sz i off heq
    split at hw
    ·rename_i e sz' rows vs hh hv
     split at hw
     ·rename_i r hrow
      simp only[L7,L_] at hw
      obtain⟨rfl,rfl⟩:=hw
      obtain⟨rfl,hp1,hp2⟩:=hp
      exact F8 hr h1 h2 h3 h4 heq hh hv hrow hp1 hp2 ty pos aft gd
     ·cases hw
    ·cases hw
   ·cases hw
  ·cases hm
 |app e sz x y=>
  simp only[lj,L9,Mc] at hm
  obtain⟨⟨rfl,hd⟩,hm⟩:=hm
  split at hm
  ·rename_i args ts
   split at hm
   ·rename_i x' y' t t' hargs hts
    simp only[L9,Mc] at hm
    obtain⟨⟨⟨h1,h2⟩,rfl⟩,h3⟩:=hm
    split at h3
    ·rename_i e' hu
     simp only[L9,Mc] at h3
     obtain⟨rfl,h3⟩:=h3
     split at h3
     ·rename_i i hi
      simp only[L9,Mc,Ma] at h3
      obtain⟨⟨⟨h4,h5⟩,h6⟩,h7⟩:=h3
      split at h7
      ·rename_i z hz
       simp only[Mc] at h7
       simp only[wr] at hw
       have hx:=ah hr h1
       split at hw
       ·rename_i id rows2 heq hyd
        rw[heq] at hx
        simp only[af] at hx
        split at hw
        ·rename_i e2 sz2 rows hh
         simp only[L7,L_] at hw
         obtain⟨rfl,rfl⟩:=hw
         obtain⟨rfl,rfl,hall,hlim⟩:=hp
         have hch:=hr.chunks id
         rw[hh] at hch
         simp only[j7] at hch
         exact yq hr hargs hts hu hi h4 h5 h6 hz h7 h2 hyd hall hlim (by rw[hx];exact hch) ty pos aft gd (by simpa using hd)
        ·cases hw
       ·rename_i rows2 heq hyd
        rw[heq] at hx
        simp only[af] at hx
        simp only[L7,L_] at hw
        obtain⟨rfl,rfl⟩:=hw
        obtain⟨hall,hlim⟩:=hp
        have hr':ce c ⟨σ.s,ay σ.h d .dead⟩ κ (ay φ d []) a w:=hr.drop d
        have:=yq (id:=d) (rows:=[]) hr' hargs hts hu hi h4 h5 h6 hz h7 h2 hyd hall (by simpa using hlim) (by rw[hx];exact⟨[],[],World.ownsRow_nil w 0 e' sz,by simp,by simp,by simp[ao],by rw[al];rfl⟩) ty pos aft gd (by simpa using hd) (d:=d)
        simp only[Mq] at this
        have e3:cf ⟨σ.s,ay σ.h d .dead⟩ d d e' sz rows2=cf σ d d e' sz rows2:=by
         unfold cf St.swap
         simp only[St.mk.injEq,true_and]
         funext j
         by_cases hj:j=d
         ·subst hj;rw[al,al]
         ·rw[aS _ _ _ _ hj,aS _ _ _ _ hj];simp only[jz,aS _ _ _ _ hj]
        rw[e3] at this
        exact this
       ·rename_i sz' n cs rows2 heq hyd
        simp only[L7,L_] at hw
        obtain⟨rfl,rfl⟩:=hw
        obtain⟨rfl,hpos,hall,hlim⟩:=hp
        exact Et hr hargs hts hu hi h4 h6 hz h7 h1 heq h2 hyd hpos hall hlim ty pos aft gd (by simpa using hd)
       ·cases hw
      ·cases h7
     ·cases h3
    ·cases h3
   ·cases hm
  ·cases hm
 |appS e x y=>
  simp only[lj,L9,Mc] at hm
  obtain⟨⟨rfl,hd⟩,hm⟩:=hm
  split at hm
  ·split at hm
   ·rename_i x' y' t t' hargs hts
    simp only[L9] at hm
    obtain⟨⟨⟨h1,h2⟩,hstr⟩,h3⟩:=hm
    split at hstr
    ·rename_i hs
     split at h3
     ·rename_i e' hu
      simp only[L9,Mc] at h3
      obtain⟨rfl,h3⟩:=h3
      split at h3
      ·rename_i i hi
       simp only[L9,Mc] at h3
       obtain⟨⟨h4,h5⟩,h6⟩:=h3
       split at h6
       ·rename_i hz
        simp only[wr] at hw
        have hx:=ah hr h1
        have hy:=ah hr h2
        split at hw
        ·rename_i id l heq heqy
         rw[heq] at hx
         rw[heqy] at hy
         simp only[af,aK] at hx hy
         split at hw
         ·rename_i e2 sz2 rows hh
          simp only[L7,L_] at hw
          obtain⟨rfl,rfl⟩:=hw
          obtain⟨rfl,rfl,hlim⟩:=hp
          have hch:=hr.chunks id
          rw[hh] at hch
          simp only[j7] at hch
          exact E9 hr hargs hts hu hs hi h4 h5 hz hy hlim (by rw[hx];exact hch) ty pos aft gd (by simpa using hd)
         ·cases hw
        ·rename_i l heq heqy
         rw[heq] at hx
         rw[heqy] at hy
         simp only[af,aK] at hx hy
         simp only[L7,L_] at hw
         obtain⟨rfl,rfl⟩:=hw
         have hlim:=hp
         have hr':ce c ⟨σ.s,ay σ.h d .dead⟩ κ (ay φ d []) a w:=hr.drop d
         have:=E9 (id:=d) (rows:=[]) hr' hargs hts hu hs hi h4 h5 hz hy (by simpa using hlim) (by rw[hx];exact⟨[],[],World.ownsRow_nil w 0 e' 1,by simp,by simp,by simp[ao],by rw[al];rfl⟩) ty pos aft gd (by simpa using hd) (d:=d)
         simp only[Mq] at this
         have e3:cf ⟨σ.s,ay σ.h d .dead⟩ d d e' 1 (l.map fun b=>[SV.d (.int .u8 b.toNat)])=cf σ d d e' 1 (l.map fun b=>[SV.d (.int .u8 b.toNat)]):=by
          unfold cf St.swap
          simp only[St.mk.injEq,true_and]
          funext j
          by_cases hj:j=d
          ·subst hj;rw[al,al]
          ·rw[aS _ _ _ _ hj,aS _ _ _ _ hj];simp only[jz,aS _ _ _ _ hj]
         rw[e3] at this
         exact this
        ·cases hw
       ·cases h6
      ·cases h3
     ·cases h3
    ·cases hstr
   ·cases hm
  ·cases hm
 |mkmap kk=>
  simp only[lj,L9,Mc] at hm
  obtain⟨⟨rfl,hd⟩,hm⟩:=hm
  split at hm
  ·simp only[wr,L7,L_] at hw
   obtain⟨_,rfl⟩:=hw
   exact Hg hr kk ty pos aft gd (by simpa using hd)
  ·cases hm
 |mset kk m k v=>
  simp only[lj,L9,Mc] at hm
  obtain⟨rfl,hm⟩:=hm
  split at hm
  ·simp only[L9] at hm
   obtain⟨⟨⟨h1,h2⟩,h3⟩,h4⟩:=hm
   split at h4
   ·rename_i kt e ht
    simp only[Mc] at h4
    simp only[wr] at hw
    split at hw
    ·rename_i id x hm' hk'
     split at hw
     ·rename_i kk' kv hh
      simp only[L7,L_] at hw
      obtain⟨rfl,rfl⟩:=hw
      obtain⟨rfl,hf⟩:=hp
      exact IL hr h1 h2 h3 ht h4 hm' hk' hh hf ty pos aft gd
     ·cases hw
    ·cases hw
   ·cases h4
  ·cases hm
 |bldM T e=>
  simp only[lj,L9,Mc] at hm
  obtain⟨⟨rfl,hd⟩,hm⟩:=hm
  split at hm
  ·rename_i t
   simp only[L9,Mc] at hm
   obtain⟨rfl,hm⟩:=hm
   split at hm
   ·rename_i i hi
    split at hm
    ·rename_i z hz
     split at hm
     ·rename_i hc
      simp only[wr,L7,L_] at hw
      obtain⟨_,rfl⟩:=hw
      exact J5 hr hi hz hc ty pos aft gd (by simpa using hd)
     ·cases hm
    ·cases hm
   ·cases hm
  ·cases hm
 |mkS e sz zv x y=>
  simp only[lj,L9,Mc] at hm
  obtain⟨⟨rfl,hd⟩,hm⟩:=hm
  split at hm
  ·simp only[L9] at hm
   obtain⟨⟨h1,h2⟩,h3⟩:=hm
   split at h3
   ·rename_i e' he
    simp only[L9,Mc] at h3
    obtain⟨rfl,h3⟩:=h3
    split at h3
    ·rename_i i hi
     simp only[L9,Mc,Ma] at h3
     obtain⟨⟨⟨h4,h5⟩,h6⟩,h7⟩:=h3
     split at h7
     ·rename_i z hz
      simp only[L9,Mc] at h7
      simp only[wr] at hw
      split at hw
      ·rename_i cs k1 n k2 m hc hx hy
       simp only[L7,L_] at hw
       obtain⟨rfl,rfl⟩:=hw
       obtain⟨hcs,h8,h9,h10⟩:=hp
       exact J8 hr he hi h4 h5 h6 hz h7.1 h7.2 hc h1 h2 hx hy hcs h8 h9 h10 ty pos aft gd (by simpa using hd)
      ·cases hw
     ·cases h7
    ·cases h3
   ·cases h3
  ·cases hm
 |slM e sz xs=>
  simp only[lj,L9,Mc] at hm
  obtain⟨⟨rfl,hd⟩,hm⟩:=hm
  split at hm
  ·simp only[L9,Mc] at hm
   obtain⟨⟨h1,h2⟩,h3⟩:=hm
   obtain⟨hrep,hidx⟩:=vD hr h2
   split at h3
   ·rename_i e' he
    simp only[L9,Mc] at h3
    obtain⟨rfl,h3⟩:=h3
    split at h3
    ·rename_i i hi
     simp only[L9,Mc,Ma] at h3
     obtain⟨⟨⟨h4,h5⟩,h6⟩,h7⟩:=h3
     split at h7
     ·rename_i z hz
      simp only[Mc] at h7
      simp only[wr] at hw
      split at hw
      ·rename_i rows hrows
       simp only[L7,L_] at hw
       obtain⟨_,rfl⟩:=hw
       have:=J7 hr he hi h4 h5 h6 hz h7 h1 hrep (fun j q hj=>by simpa using hidx j q hj) hrows ty pos aft gd (by simpa using hd)
       simpa using this
      ·cases hw
     ·cases h7
    ·cases h3
   ·cases h3
  ·cases hm
 |trunc sz y h=>
  simp only[lj,L9,Mc] at hm
  obtain⟨⟨rfl,hd⟩,hm⟩:=hm
  split at hm
  ·simp only[L9] at hm
   obtain⟨⟨h1,h2⟩,h3⟩:=hm
   split at h3
   ·rename_i e he
    simp only[L9,Mc,Ma] at h3
    obtain⟨⟨h4,h5⟩,h6⟩:=h3
    simp only[wr] at hw
    split at hw
    ·rename_i id k n hx hn
     split at hw
     ·rename_i e' sz' rows hh
      simp only[L7,L_] at hw
      obtain⟨rfl,rfl⟩:=hw
      obtain⟨rfl,h0,hle⟩:=hp
      exact Hf hr he h4 h5 h1 h2 hx hn hh h0 hle ty pos aft gd (by simpa using hd)
     ·cases hw
    ·cases hw
   ·cases h3
  ·cases hm
theorem Hx {h:Nat->Ch} {xs ins outs:List SV} {L:List (Nat×Ch)} (hh:HandL h xs ins outs L):outs.length=xs.length:=by
 induction hh<;>simp_all
theorem Bp {x:Operand} {f:FuncId} {args:Array Operand} {ts:Array TypeId} {caps:List Value} (hx:a.eval x= .func (.func f) #[] caps.toArray) (hf:nS P f=true) (dst:Option Tmp) (ty:TypeId) (pos:String) (aft:Array Edge) (gd:Option (Nat×Bool)):
  (execOp a.eval ⟨dst,.call {callee:= .value x,args,argTypes:=ts},ty,pos,aft,gd⟩).run P w= .ok (.enter f (args.toList.map a.eval++caps).toArray) w:=by
 unfold nS at hf
 cases hfn:P.funcs[f]? with
 |none=>simp[hfn] at hf
 |some fn=>
  simp only[hfn,L9,bne_iff_ne,ne_eq] at hf
  obtain⟨h1,h2⟩:=hf
  have e:(args.map a.eval)++caps.toArray=(args.toList.map a.eval++caps).toArray:=by
   rw[<-MR];simp
  have h3:(fn.name== "runtime.NumGoroutine")=false:=by simpa using h2
  have h4:fn.body.isNone=false:=by cases hb:fn.body<;>simp_all
  simp only[execOp,resolve,hx,Deferred.ofValue,Sem.run_bind,Sem.run_pure,Result.andThen_ok,invoke,callFunc,program,Sem.run,hfn,h3,h4,My,MZ]
  simp[e]
def LH:SO->Bool
 | .q _ _ _ _=>true
 |_=>false
theorem Dq {ops:Array Oper} (hr:ce c σ κ φ a w) {o:Oper} {so:SO} (hq:LH so=false) (hm:ef P c.N o so=true) {K:St->Prop} (h:AO P so σ K) {Q:Exit->Act->World->Prop} {next:Act->World->Prop}
  (hn:∀ σ' κ' φ' a' w',ce c σ' κ' φ' a' w'->K σ'->next a' w'):o.wp P a w next Q:=by
 cases so with
 |q _ _ _ _=>simp[LH] at hq
 |r dst op=>
  simp only[ef,L9,Mc,Ma] at hm
  obtain⟨⟨h1,h2⟩,h3⟩:=hm
  simp only[AO] at h
  split at h
  ·rename_i p v hrd
   obtain⟨u,w',hrun,hb,hrep⟩:=C8 hr h3 hrd h.1
   unfold Oper.wp
   rw[hrun]
   simp only[Oper.upon,h1]
   exact hn _ _ _ _ _ (hr.put h2 hb hrep) h.2
  ·exact h.elim
 |o dst op=>
  simp only[ef,L9,Mc,Ma] at hm
  obtain⟨⟨h1,h2⟩,h3⟩:=hm
  simp only[AO] at h
  obtain⟨σ1,himp,p,v,hrd,hp,hK⟩:=h
  obtain⟨κ1,φ1,hr⟩:=himp _ _ _ _ _ hr
  obtain⟨u,w',hrun,hb,hrep⟩:=C8 hr h3 hrd hp
  unfold Oper.wp
  rw[hrun]
  simp only[Oper.upon,h1]
  exact hn _ _ _ _ _ (hr.put h2 hb hrep) hK
 |c dst f args=>
  simp only[ef,L9,Mc,Ma] at hm
  obtain⟨⟨h1,h2⟩,h3⟩:=hm
  simp only[AO] at h
  obtain⟨odst,oop,ty,pos,aft,gd⟩:=o
  simp only at h1 h3
  subst h1
  split at h3
  ·rename_i x as ts
   simp only[L9] at h3
   split at h
   ·rename_i fid caps ds heq heqs
    obtain⟨res,⟨hcal,hspec⟩,hflat,hK⟩:=h
    have hx:=ah hr h3.1
    rw[heq] at hx
    simp only[af,aK] at hx
    obtain⟨cvs,hx,hcaps⟩:=hx
    have hargs:=xz hr _ _ _ (jE hr h3.2) heqs
    unfold Oper.wp
    rw[Bp (P:=P) (w:=w) (args:=as) hx hcal]
    simp only[Oper.upon]
    rcases hflat with hd|hf
    ·obtain⟨es,hes⟩:=MV.1 hd
     have hargs':=aj.toDVs _ _ _ (jE hr h3.2) hes
     have hee:es=ds:=by
      have key:∀ (h:Nat->Ch) (cs:List SV) (es:List DV),SV.toDVs cs=some es->SV.lends h cs=some es:=jI
      have:=key σ.h _ _ hes
      rw[heqs] at this;simpa using this.symm
     subst hee
     refine(hspec w (own c φ) _ (fun b hb=>hr.own_lt hb) (hargs'.append hcaps) hr.good).mono ?_
     rintro e w' ⟨v,rfl,hrep,hb⟩
     simp only
     exact hn _ _ _ _ _ (hr.put h2 hb (by simpa only[af] using hrep)) hK
    ·refine(hspec w c.M0 _ (fun b hb=>Mx (hr.m0 b hb).1 hr.size) (hargs.append (hcaps.ext (kN.shrink fun b hb=> .inl hb))) hr.good).mono ?_
     rintro e w' ⟨v,rfl,hrep,hb⟩
     simp only
     exact hn _ _ _ _ _ (hr.put h2 hb (by simp only[af];exact hrep.flat _ _ hf)) hK
   ·exact h.elim
  ·cases h3
 |w d op=>
  simp only[ef] at hm
  simp only[AO] at h
  obtain⟨σ1,himp,p,σ',hw,hp,hK⟩:=h
  obtain⟨κ1,φ1,hr⟩:=himp _ _ _ _ _ hr
  obtain⟨v,w',κ',φ',hrun,hcase⟩:=Dp hr hm hw hp
  unfold Oper.wp
  rw[hrun]
  rcases hcase with⟨u,rfl,href⟩|⟨rfl,href⟩
  ·simp only[Oper.upon];exact hn _ _ _ _ _ href hK
  ·simp only[Oper.upon];exact hn _ _ _ _ _ href hK
 |x d op late=>
  simp only[ef] at hm
  simp only[AO] at h
  split at h
  ·rename_i p σ' hw
   obtain⟨v,w',κ',φ',hrun,hcase⟩:=Dp hr hm hw h.1
   unfold Oper.wp
   rw[hrun]
   rcases hcase with⟨u,rfl,href⟩|⟨rfl,href⟩
   ·simp only[Oper.upon];exact hn _ _ _ _ _ href h.2.2
   ·simp only[Oper.upon];exact hn _ _ _ _ _ href h.2.2
  ·exact h.elim
 |p dst f args=>
  simp only[ef,L9,Mc] at hm
  obtain⟨⟨h1,h2⟩,h3⟩:=hm
  simp only[AO] at h
  obtain⟨σ1,himp,fid,caps,ins,outs,res,L,σ2,heq,⟨hcal,hspec⟩,hclosed,hhand,htake,hK⟩:=h
  obtain⟨κ1,φ1,hr⟩:=himp _ _ _ _ _ hr
  obtain⟨odst,oop,ty,pos,aft,gd⟩:=o
  simp only at h1 h3
  subst h1
  split at h3
  ·rename_i x as ts
   simp only[L9] at h3
   have hx:=ah hr h3.1
   rw[heq] at hx
   simp only[af,aK] at hx
   obtain⟨cvs,hx,hcaps⟩:=hx
   have hxs:=jE hr h3.2
   unfold Oper.wp
   rw[Bp (P:=P) (w:=w) (args:=as) hx hcal]
   simp only[Oper.upon]
   have hMF:∀ b,((own c φ1 b/\b∉gM φ1 L)\/b∈gM φ1 L)->own c φ1 b:=fun b hb=>by
    rcases hb with hb|hb
    ·exact hb.1
    ·obtain⟨id,_,hi⟩:=bO.1 hb;exact .inr ⟨id,hi⟩
   have hin:=(Hj hr (M:=fun b=>(own c φ1 b/\b∉gM φ1 L)\/b∈gM φ1 L) hMF hhand hxs).append (ao.of_S (κ:=κ0) _ _ (aj.of_d (hcaps.ext (kN.shrink hMF))))
   rw[Mw] at hin
   refine(hspec w (fun b=>own c φ1 b/\b∉gM φ1 L) _ (gM φ1 L) (fun b hb=>⟨hr.own_lt hb.1,hb.2⟩) (fun b hb=>hr.own_lt (hMF b (.inr hb))) (vF hr hhand).1 hin hr.good (fun t ht hb=>by obtain⟨id,_,hi⟩:=bO.1 hb;exact hr.free t ht hi)).mono ?_
   rintro e w' ⟨v,F1,F2,rfl,hb1,hb2,hnod,hbin,hchg⟩
   simp only
   obtain⟨G1,G2,rfl,hb3,hb4⟩:=hb1.split
   have hlen:outs.length=(as.toList.map a.eval).length:=by
    have h1:=hxs.length
    have h2:outs.length=(args.map (ev σ1.s)).length:=Hx hhand
    omega
   rw[hlen,List.take_left] at hb3
   have hcapno:∀ (l:List DV),SV.noOwns (l.map .d)=true:=fun l=>by induction l with|nil=>rfl|cons d l ih=>simp[SV.noOwns,SV.noOwn,ih]
   obtain⟨_,rfl⟩:=ao.to_S _ _ _ (hcapno caps) hb4
   rw[Mw] at hb3 hb2 hnod hbin
   unfold takes at htake
   cases odst with
   |none=>
    simp only at htake
    split at htake
    ·rename_i h0
     simp only[L7] at htake;subst htake
     obtain⟨φ2,href,_,_⟩:=hr.called hhand hxs hb3 hnod hbin hchg
     exact hn _ _ _ _ _ href hK
    ·cases htake
   |some d=>
    simp only at htake
    split at htake
    ·rename_i h0
     simp only[L7] at htake;subst htake
     obtain⟨φ2,href,hown,_⟩:=hr.called hhand hxs hb3 hnod hbin hchg
     obtain⟨hs,_⟩:=aQ.to_S _ _ _ (zN res h0).1 hb2
     exact hn _ _ _ _ _ (href.putS (dst:=d) (by simpa using h2) ((hs.kappa _ _ hclosed).ext (kN.shrink hown))) hK
    ·split at htake
     ·rename_i h0 h1
      split at htake
      ·rename_i m vv ho1
       split at htake
       ·rename_i ch mk hoc
        simp only[L7] at htake;subst htake
        obtain⟨u,hO,hplug⟩:=Do res v F2 m vv hclosed h1 ho1 hb2
        obtain⟨hone,hmk⟩:=zL hO hoc
        obtain⟨φ2,href,hown⟩:=hr.called2 hhand hxs hb3 hnod hbin hchg (dst:=d) (u:=u) (ch:=ch) hone ((pC hO.shape hoc (by rw[al])).2 hO)
        exact hn _ _ _ _ _ (href.putS (dst:=d) (by simpa using h2) ((hplug _ _ (hmk _ d (by rw[al]))).ext (kN.shrink hown))) hK
       ·cases htake
      ·cases htake
     ·cases htake
  ·cases h3
 |g _ _ _ _=>simp[ef] at hm
theorem L5 {d:Nat} {f:SX} {args:List SX} {late:List (Nat×Nat×sM)} {K:St->Prop} (h:AO P (.q d f args late) σ K):AO P (.p (some d) f args) σ K:=by
 simp only[AO] at h⊢
 obtain⟨fid,ins,outs,res,L,σ',h1,h3,h4,h2,h5,_,h7⟩:=h
 exact⟨σ,f0.refl _,fid,[],ins,outs,res,L,σ',h1,by simpa using h3,h4,h2,h5,h7⟩
theorem Fj {ops:Array Oper} (hr:ce c σ κ φ a w) {o:Oper} {so:SO} (hm:ef P c.N o so=true) {K:St->Prop} (h:AO P so σ K) {Q:Exit->Act->World->Prop} {next:Act->World->Prop}
  (hn:∀ σ' κ' φ' a' w',ce c σ' κ' φ' a' w'->K σ'->next a' w'):o.wp P a w next Q:=by
 cases hq:LH so with
 |false=>exact Dq (ops:=ops) hr hq hm h hn
 |true=>
  cases so<;>simp[LH] at hq
  rename_i d f args late
  exact Dq (ops:=ops) (so:= .p (some d) f args) hr rfl (by simpa only[ef] using hm) (L5 h) hn
theorem zO {N:Nat} {o:Oper} {so:SO} {d:Nat} (h:ef P N o so=true) (hd:o.dst=some d):d<N:=by
 cases so with
 |r dst op=>simp only[ef,L9,Mc,Ma,hd,L7] at h;omega
 |o dst op=>simp only[ef,L9,Mc,Ma,hd,L7] at h;omega
 |c dst f args=>simp only[ef,L9,Mc,Ma,hd,L7] at h;omega
 |p dst f args=>
  simp only[ef,L9,Mc,hd] at h
  obtain⟨⟨rfl,h2⟩,_⟩:=h
  simpa using h2
 |w e op=>cases op<;>simp[ef,lj,hd] at h<;>omega
 |x e op _=>cases op<;>simp[ef,lj,hd] at h<;>omega
 |q e f args _=>
  simp only[ef,L9,Mc,Ma,hd,L7] at h;omega
 |g _ _ _ _=>simp[ef] at h
theorem Dr {ops:Array Oper} (hr:ce c σ κ φ a w) {j t:Nat} {b:Bool} (hj:(ops[j]?).bind (·.dst)=some t) (ht:t<c.N) (hs:σ.s t= .d (.bool b)):yielded ops a.tmps j=some b:=by
 have:=hr.slots t ht
 rw[hs] at this
 simp only[af,aK] at this
 have hlt:t<a.tmps.size:=by rw[hr.ntmps];exact ht
 have hg:a.tmps[t]?=some (.bool b):=by
  simp only[Nk] at this
  rw[Ng hlt] at this⊢
  simpa using this
 unfold yielded
 simp[hj,hg]
theorem EB {ops:Array Oper} (hr:ce c σ κ φ a w) {j t:Nat} (hj:(ops[j]?).bind (·.dst)=some t) (ht:t<c.N) (hs:σ.s t= .d (.tup [])):yielded ops a.tmps j=none:=by
 have:=hr.slots t ht
 rw[hs] at this
 simp only[af,aK,aB] at this
 obtain⟨vs,this,rfl⟩:=this
 have hlt:t<a.tmps.size:=by rw[hr.ntmps];exact ht
 have hg:a.tmps[t]?=some (.tuple #[]):=by
  simp only[Nk] at this
  rw[Ng hlt] at this⊢
  simpa using this
 unfold yielded
 simp[hj,hg]
theorem wF {ops:Array Oper} (hr:ce c σ κ φ a w) {o:Oper} {so:SO} (hm:mu P c.N ops o so=true) {K:St->Prop} (h:AO P so σ K) {Q:Exit->Act->World->Prop} {next:Act->World->Prop}
  (hn:∀ σ' κ' φ' a' w',ce c σ' κ' φ' a' w'->K σ'->next a' w'):if Region.wanted o (yielded ops a.tmps) then o.wp P a w next Q\/(o.asks P a w/\LetsOut Q) else next (a.put o.dst undef) w:=by
 have plain:o.guard=none->ef P c.N o so=true->if Region.wanted o (yielded ops a.tmps) then o.wp P a w next Q\/(o.asks P a w/\LetsOut Q) else next (a.put o.dst undef) w:=fun hg hu=>by
  have:Region.wanted o (yielded ops a.tmps)=true:=by simp[Region.wanted,hg]
  rw[this,NH rfl]
  exact .inl (Fj (ops:=ops) hr hu h hn)
 have split:∀ so,mu P c.N ops o so=true->(∀ t want dst so',so≠ .g t want dst so')->o.guard=none/\ef P c.N o so=true:=fun so hm hne=>by
  cases so with
  |g t want dst so'=>exact absurd rfl (hne t want dst so')
  |_=>simpa[mu] using hm
 cases so with
 |g t want dst so'=>
  simp only[mu,L9,Mc] at hm
  obtain⟨⟨h1,h2⟩,h3⟩:=hm
  split at h1
  ·rename_i j want' hg
   simp only[L9,Mc,Ma] at h1
   obtain⟨⟨rfl,h4⟩,h5⟩:=h1
   simp only[AO] at h
   split at h
   ·rename_i b hs
    have hy:=Dr (ops:=ops) hr h4 h5 hs
    by_cases hb:b=want'
    ·have:Region.wanted o (yielded ops a.tmps)=true:=by simp[Region.wanted,hg,hy,hb]
     rw[this,NH rfl]
     exact .inl (Fj (ops:=ops) hr h3 (h.1 hb) hn)
    ·have:Region.wanted o (yielded ops a.tmps)=false:=by simp[Region.wanted,hg,hy,hb]
     rw[this]
     simp only[My,MZ]
     have hK:=h.2 (by cases b<;>cases want'<;>simp_all)
     rw[h2]
     cases dst with
     |none=>exact hn _ _ _ _ _ hr hK
     |some d=>exact hn _ _ _ _ _ (hr.putS (zO h3 h2) (by simp[af,aK,aB,undef])) hK
   ·rename_i hs
    have hy:=EB (ops:=ops) hr h4 h5 hs
    have:Region.wanted o (yielded ops a.tmps)=false:=by simp[Region.wanted,hg,hy]
    rw[this]
    simp only[My,MZ]
    rw[h2]
    cases dst with
    |none=>exact hn _ _ _ _ _ hr h
    |some d=>exact hn _ _ _ _ _ (hr.putS (zO h3 h2) (by simp[af,aK,aB,undef])) h
   ·exact h.elim
  ·cases h1
 |r dst op=>obtain⟨h1,h2⟩:=split _ hm oS;exact plain h1 h2
 |c dst f args=>obtain⟨h1,h2⟩:=split _ hm oS;exact plain h1 h2
 |w d op=>obtain⟨h1,h2⟩:=split _ hm oS;exact plain h1 h2
 |o d op=>obtain⟨h1,h2⟩:=split _ hm oS;exact plain h1 h2
 |p d f args=>obtain⟨h1,h2⟩:=split _ hm oS;exact plain h1 h2
 |x d op late=>obtain⟨h1,h2⟩:=split _ hm oS;exact plain h1 h2
 |q d f args late=>obtain⟨h1,h2⟩:=split _ hm oS;exact plain h1 h2
theorem xD {ops:Array Oper} {K:St->Prop} {Q:Exit->Act->World->Prop} (hQ:∀ σ' κ' φ' a' w',ce c σ' κ' φ' a' w'->K σ'->Q .normal a' w'):
  ∀ (sos:List SO) (l:List Oper) (k:Nat) (σ:St) (κ:Nat->Value) (φ:Nat->List Nat) (a:Act) (w:World),(∀ j o,l[j]?=some o->ops[k+j]?=some o)->bx P c.N ops l sos=true->ce c σ κ φ a w->ba P K sos σ->
  wpOps P ops Q (List.range' k l.length) a w
 |[],l,k,σ,κ,φ,a,w,hl,hm,hr,h=>by
  cases l with
  |nil=>simp only[Nj,List.range'_zero,wpOps];exact hQ _ _ _ _ _ hr h
  |cons _ _=>simp[bx] at hm
 |so::sos,l,k,σ,κ,φ,a,w,hl,hm,hr,h=>by
  cases l with
  |nil=>simp[bx] at hm
  |cons o l=>
   simp only[bx,L9] at hm
   simp only[Mv,List.range'_succ,wpOps]
   have ho:ops[k]?=some o:=by simpa using hl 0 o oS
   simp only[ho]
   simp only[ba] at h
   exact wF hr hm.1 h fun σ' κ' φ' a' w' hr' hk=>xD hQ sos l (k+1) σ' κ' φ' a' w' (fun j o' hj=>by
    have:=hl (j+1) o' (by simpa using hj)
    rw[show k+1+j=k+(j+1) by omega];exact this) hm.2 hr' hk
theorem Cn {id:Nat} {ops:Array Oper} {sos:List SO} {K:St->Prop} {Q:Exit->Act->World->Prop} (hQ:∀ σ' κ' φ' a' w',ce c σ' κ' φ' a' w'->K σ'->Q .normal a' w') (hm:bx P c.N ops ops.toList sos=true) (hr:ce c σ κ φ a w) (h:ba P K sos σ):
  (Code.region id ops false).wp P Q a w:=by
 refine wp_region ?_
 have:=xD (P:=P) (ops:=ops) hQ sos ops.toList 0 σ κ φ a w (fun j o hj=>by simpa using hj) hm hr h
 simpa[List.range_eq_range'] using this
end
