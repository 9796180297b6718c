/-
  My text.
-/
import Derived.Test.YteaolfcegaidpaaGreatDoorSYEngJ
namespace Go.Proofs.YteaolfcegaidpaaGreatDoor
set_option linter.unusedSimpArgs false
set_option linter.unusedVariables false
open Go.RowKit
def dB (σ σ':St):Prop:=∀ (c:Cx) (κ:Nat->Value) (φ:Nat->List Nat) (a:Act) (w:World),cE c σ κ φ a w->∃ κ' φ',cE c σ' κ' φ' a w
theorem dB.refl (σ:St):dB σ σ:=fun _ κ φ _ _ h=>⟨κ,φ,h⟩
theorem dB.trans {σ σ' σ'':St} (h:dB σ σ') (k:dB σ' σ''):dB σ σ'':=fun c κ φ a w hr=>by
 obtain⟨κ',φ',hr'⟩:=h c κ φ a w hr
 exact k c κ' φ' a w hr'
mutual
def SV.nOwn:SV->Nat
 | .own _ _=>1
 | .agg cs=>SV.nOwns cs
 | .tup cs=>SV.nOwns cs
 | .d _=>0
 | .nils=>0
 | .lit _ _ _=>0
 | .ref _ _=>0
 | .vec _=>0
 | .vref _ _ _ _=>0
 | .mp _=>0
 | .clo _ _=>0
def SV.nOwns:List SV->Nat
 |[]=>0
 |c::cs=>SV.nOwn c+SV.nOwns cs
end
mutual
def SV.own1:SV->Option (cB×DV)
 | .own m v=>some (m,v)
 | .agg cs=>SV.own1s cs
 | .tup cs=>SV.own1s cs
 | .d _=>none
 | .nils=>none
 | .lit _ _ _=>none
 | .ref _ _=>none
 | .vec _=>none
 | .vref _ _ _ _=>none
 | .mp _=>none
 | .clo _ _=>none
def SV.own1s:List SV->Option (cB×DV)
 |[]=>none
 |c::cs=>match SV.own1 c with|some x=>some x|none=>SV.own1s cs
end
mutual
def SV.plug (y:SV):SV->SV
 | .own _ _=>y
 | .agg cs=> .agg (SV.plugs y cs)
 | .tup cs=> .tup (SV.plugs y cs)
 | .d v=> .d v
 | .nils=> .nils
 | .lit s n cs=> .lit s n cs
 | .ref i o=> .ref i o
 | .vec i=> .vec i
 | .vref i s k o=> .vref i s k o
 | .mp i=> .mp i
 | .clo f l=> .clo f l
def SV.plugs (y:SV):List SV->List SV
 |[]=>[]
 |c::cs=>SV.plug y c::SV.plugs y cs
end
mutual
theorem Bx:∀ (x:SV),x.nOwn=0->x.noOwn=true/\∀ y,SV.plug y x=x
 | .own _ _,h=>by simp[SV.nOwn] at h
 | .agg cs,h=>by
  obtain⟨h1,h2⟩:=wh cs (by simpa[SV.nOwn] using h)
  exact⟨by simpa[SV.noOwn] using h1,fun y=>by simp[SV.plug,h2 y]⟩
 | .tup cs,h=>by
  obtain⟨h1,h2⟩:=wh cs (by simpa[SV.nOwn] using h)
  exact⟨by simpa[SV.noOwn] using h1,fun y=>by simp[SV.plug,h2 y]⟩
 | .d _,_=>⟨rfl,fun _=>rfl⟩
 | .nils,_=>⟨rfl,fun _=>rfl⟩
 | .lit _ _ _,_=>⟨rfl,fun _=>rfl⟩
 | .ref _ _,_=>⟨rfl,fun _=>rfl⟩
 | .vec _,_=>⟨rfl,fun _=>rfl⟩
 | .vref _ _ _ _,_=>⟨rfl,fun _=>rfl⟩
 | .mp _,_=>⟨rfl,fun _=>rfl⟩
 | .clo _ _,_=>⟨rfl,fun _=>rfl⟩
theorem wh:∀ (cs:List SV),SV.nOwns cs=0->SV.noOwns cs=true/\∀ y,SV.plugs y cs=cs
 |[],_=>⟨rfl,fun _=>rfl⟩
 |c::cs,h=>by
  simp only[SV.nOwns] at h
  obtain⟨h1,h2⟩:=Bx c oM
  obtain⟨h3,h4⟩:=wh cs oM
  exact⟨by simp[SV.noOwns,h1,h3],fun y=>by simp[SV.plugs,h2 y,h4 y]⟩
end
section
variable {w:World} {M:Nat->Prop} {κ:Nat->Value}
mutual
theorem Jt:∀ (x:SV),x.own1≠none->x.nOwn≠0
 | .own _ _,_=>by simp[SV.nOwn]
 | .agg cs,h=>by simp only[SV.nOwn];exact D2 cs (by simpa[SV.own1] using h)
 | .tup cs,h=>by simp only[SV.nOwn];exact D2 cs (by simpa[SV.own1] using h)
 | .d _,h=>by simp[SV.own1] at h
 | .nils,h=>by simp[SV.own1] at h
 | .lit _ _ _,h=>by simp[SV.own1] at h
 | .ref _ _,h=>by simp[SV.own1] at h
 | .vec _,h=>by simp[SV.own1] at h
 | .vref _ _ _ _,h=>by simp[SV.own1] at h
 | .mp _,h=>by simp[SV.own1] at h
 | .clo _ _,h=>by simp[SV.own1] at h
theorem D2:∀ (cs:List SV),SV.own1s cs≠none->SV.nOwns cs≠0
 |[],h=>by simp[SV.own1s] at h
 |c::cs,h=>by
  simp only[SV.own1s] at h
  simp only[SV.nOwns]
  split at h
  ·rename_i x hx
   have:=Jt c (by rw[hx];simp)
   omega
  ·have:=D2 cs h
   omega
end
mutual
theorem Ju:∀ (x:SV),x.own1=none->x.nOwn=0
 | .own _ _,h=>by simp[SV.own1] at h
 | .agg cs,h=>by simp only[SV.nOwn];exact D3 cs (by simpa[SV.own1] using h)
 | .tup cs,h=>by simp only[SV.nOwn];exact D3 cs (by simpa[SV.own1] using h)
 | .d _,_=>rfl
 | .nils,_=>rfl
 | .lit _ _ _,_=>rfl
 | .ref _ _,_=>rfl
 | .vec _,_=>rfl
 | .vref _ _ _ _,_=>rfl
 | .mp _,_=>rfl
 | .clo _ _,_=>rfl
theorem D3:∀ (cs:List SV),SV.own1s cs=none->SV.nOwns cs=0
 |[],_=>rfl
 |c::cs,h=>by
  simp only[SV.own1s] at h
  split at h
  ·cases h
  ·rename_i hx
   simp only[SV.nOwns,Ju c hx,D3 cs h]
end
mutual
theorem E2:∀ (x:SV) (v:Value) (F:List Nat) (m:cB) (d:DV),x.closed=true->x.nOwn=1->x.own1=some (m,d)->aK w M κ x v F->∃ u,gl w M m d u F/\∀ (κ':Nat->Value) y,ae w M κ' y u->ae w M κ' (SV.plug y x) v
 | .own m' d',v,F,m,d,_,_,ho,hr=>by
  simp only[SV.own1,Oy,OB] at ho
  obtain⟨rfl,rfl⟩:=ho
  simp only[aK] at hr
  exact⟨v,hr,fun κ' y hy=>by simpa only[SV.plug] using hy⟩
 | .agg cs,v,F,m,d,hc,hn,ho,hr=>by
  simp only[aK] at hr
  obtain⟨vs,rfl,h1,h2⟩:=hr
  obtain⟨u,k1,k2⟩:=zd cs vs F m d (by simpa[SV.closed] using hc) (by simpa[SV.nOwn] using hn) (by simpa[SV.own1] using ho) h2
  exact⟨u,k1,fun κ' y hy=>by simp only[SV.plug,ae];exact⟨vs,rfl,h1,k2 κ' y hy⟩⟩
 | .tup cs,v,F,m,d,hc,hn,ho,hr=>by
  simp only[aK] at hr
  obtain⟨vs,rfl,h2⟩:=hr
  obtain⟨u,k1,k2⟩:=zd cs vs F m d (by simpa[SV.closed] using hc) (by simpa[SV.nOwn] using hn) (by simpa[SV.own1] using ho) h2
  exact⟨u,k1,fun κ' y hy=>by simp only[SV.plug,ae];exact⟨vs,rfl,k2 κ' y hy⟩⟩
 | .d _,_,_,_,_,_,_,ho,_=>by simp[SV.own1] at ho
 | .nils,_,_,_,_,_,_,ho,_=>by simp[SV.own1] at ho
 | .lit _ _ _,_,_,_,_,_,_,ho,_=>by simp[SV.own1] at ho
 | .ref _ _,_,_,_,_,_,_,ho,_=>by simp[SV.own1] at ho
 | .vec _,_,_,_,_,_,_,ho,_=>by simp[SV.own1] at ho
 | .vref _ _ _ _,_,_,_,_,_,_,ho,_=>by simp[SV.own1] at ho
 | .mp _,_,_,_,_,_,_,ho,_=>by simp[SV.own1] at ho
 | .clo _ _,_,_,_,_,_,_,ho,_=>by simp[SV.own1] at ho
theorem zd:∀ (cs:List SV) (vs:List Value) (F:List Nat) (m:cB) (d:DV),SV.closeds cs=true->SV.nOwns cs=1->SV.own1s cs=some (m,d)->am w M κ cs vs F->∃ u,gl w M m d u F/\∀ (κ':Nat->Value) y,ae w M κ' y u->ai w M κ' (SV.plugs y cs) vs
 |[],_,_,_,_,_,_,ho,_=>by simp[SV.own1s] at ho
 |c::cs,vs,F,m,d,hc,hn,ho,hr=>by
  simp only[am] at hr
  obtain⟨v,us,F1,F2,rfl,rfl,h1,h2⟩:=hr
  simp only[SV.closeds,Oz] at hc
  simp only[SV.nOwns] at hn
  simp only[SV.own1s] at ho
  split at ho
  ·rename_i x hx
   simp only[Oy] at ho;subst ho
   have hn1:c.nOwn≠0:=fun h0=>by
    have:∀ (x:SV),x.own1≠none->x.nOwn≠0:=Jt
    exact this c (by rw[hx];simp) h0
   obtain⟨u,k1,k2⟩:=E2 c v F1 m d hc.1 oM hx h1
   obtain⟨k3,k4⟩:=wh cs oM
   obtain⟨k5,rfl⟩:=am.to_S cs us F2 k3 h2
   refine⟨u,by simpa using k1,fun κ' y hy=> ?_⟩
   simp only[SV.plugs,ai,k4 y]
   exact⟨v,us,rfl,k2 κ' y hy,k5.kappa _ _ hc.2⟩
  ·rename_i hx
   have hn0:c.nOwn=0:=Ju c hx
   obtain⟨k3,k4⟩:=Bx c hn0
   obtain⟨k5,rfl⟩:=aK.to_S c v F1 k3 h1
   obtain⟨u,k1,k2⟩:=zd cs us F2 m d hc.2 oM ho h2
   refine⟨u,by simpa using k1,fun κ' y hy=> ?_⟩
   simp only[SV.plugs,ai,k4 y]
   exact⟨v,us,rfl,k5.kappa _ _ hc.1,k2 κ' y hy⟩
end
end
def takes (σ:St) (L:List (Nat×Ch)) (dst:Option Nat) (res:SV):Option St:=
 match dst with
 |none=>if res.nOwn=0 then some ⟨σ.s,kW L σ.h⟩ else none
 |some d=>if res.nOwn=0 then some ⟨aH σ.s d res,kW L σ.h⟩ else if res.nOwn=1 then
   match res.own1 with
   |some (m,v)=>match cY m v with
    |some (ch,mk)=>some ⟨aH (gn d .any σ.s) d (SV.plug (mk d) res),aH (lv d .any (kW L σ.h)) d ch⟩
    |none=>none
   |none=>none
  else none
inductive SO where
 |r (dst:Nat) (op:uk)
 |c (dst:Nat) (f:SX) (args:List SX)
 |o (dst:Nat) (op:uk)
 |w (dst:Nat) (op:IV)
 |p (dst:Option Nat) (f:SX) (args:List SX)
 |x (dst:Nat) (op:IV) (late:List (Nat×Nat×uk))
 |q (dst:Nat) (f:SX) (args:List SX) (late:List (Nat×Nat×uk))
 |g (t:Nat) (want:Bool) (dst:Option Nat) (o:SO)
def putS (σ:St) (dst:Option Nat) (v:SV):St:=
 match dst with
 |some d=>⟨aH σ.s d v,σ.h⟩
 |none=>σ
def MD (h:Nat->Ch) (s:Nat->SV) (op:uk):Option (Prop×SV):=
 match op with
 | .gd t want op=>match s t with
  | .d (.bool b)=>if b=want then rd h s op else some (True,.d (.tup []))
  | .d (.tup [])=>some (True,.d (.tup []))
  |_=>none
 |op=>rd h s op
theorem ME {h:Nat->Ch} {s:Nat->SV} {op:uk} {x:Prop×SV} (hr:rd h s op=some x):MD h s op=some x:=by
 cases op<;>first|exact hr|(simp only[rd] at hr;cases hr)
def Co (σ:St):List (Nat×Nat×uk)->Prop
 |[]=>True
 |(_,t,op)::l=>(match MD σ.h σ.s op with|some (p,v)=>p/\v=σ.s t|none=>False)/\Co σ l
def AO (P:Program):SO->St->(St->Prop)->Prop
 | .r dst op,σ,K=>match rd σ.h σ.s op with
  |some (p,v)=>p/\K ⟨aH σ.s dst v,σ.h⟩
  |none=>False
 | .c dst f args,σ,K=>match ev σ.s f,SV.lends σ.h (args.map (ev σ.s)) with
  | .d (.fn fid caps),some as=>∃ res,aa P fid (as++caps) res/\((SV.toDVs (args.map (ev σ.s))).isSome=true\/res.flat=true)/\K ⟨aH σ.s dst (.d res),σ.h⟩
  |_,_=>False
 | .o dst op,σ,K=>∃ σ1,dB σ σ1/\∃ p v,rd σ1.h σ1.s op=some (p,v)/\p/\K ⟨aH σ1.s dst v,σ1.h⟩
 | .w dst op,σ,K=>∃ σ1,dB σ σ1/\∃ p σ',wr σ1 dst op=some (p,σ')/\p/\K σ'
 | .p dst f args,σ,K=>∃ σ1,dB σ σ1/\∃ fid caps ins outs res L σ2,ev σ1.s f= .d (.fn fid caps)/\cF P fid (ins++caps.map .d) res (outs++caps.map .d)/\res.closed=true/\
   HandL σ1.h (args.map (ev σ1.s)) ins outs L/\takes σ1 L dst res=some σ2/\K σ2
 | .x dst op late,σ,K=>match wr σ dst op with
  |some (p,σ')=>p/\Co σ' late/\K σ'
  |none=>False
 | .q dst f args late,σ,K=>∃ fid ins outs res L σ',ev σ.s f= .d (.fn fid [])/\cF P fid ins res outs/\res.closed=true/\HandL σ.h (args.map (ev σ.s)) ins outs L/\takes σ L (some dst) res=some σ'/\Co σ' late/\K σ'
 | .g t want dst o,σ,K=>match σ.s t with
  | .d (.bool b)=>(b=want->AO P o σ K)/\(b= !want->K (putS σ dst (.d (.tup []))))
  | .d (.tup [])=>K (putS σ dst (.d (.tup [])))
  |_=>False
def bh (P:Program) (K:St->Prop):List SO->St->Prop
 |[],σ=>K σ
 |o::rest,σ=>AO P o σ (bh P K rest)
def eG (P:Program) (N:Nat) (o:Oper):SO->Bool
 | .r dst op=>o.dst==some dst&&decide (dst<N)&&cf P N o.op op
 | .o dst op=>o.dst==some dst&&decide (dst<N)&&cf P N o.op op
 | .c dst f args=>o.dst==some dst&&decide (dst<N)&&(match o.op with
  | .call {callee:= .value x,args:=as,argTypes:=_}=>aA N x f&&kT N as.toList args
  |_=>false)
 | .p dst f args=>o.dst==dst&&(match dst with|some d=>decide (d<N)|none=>true)&&(match o.op with
  | .call {callee:= .value x,args:=as,argTypes:=_}=>aA N x f&&kT N as.toList args
  |_=>false)
 | .w d op=>mh P N o.op o.dst d op
 | .x d op _=>mh P N o.op o.dst d op
 | .q d f args _=>o.dst==some d&&decide (d<N)&&(match o.op with
  | .call {callee:= .value x,args:=as,argTypes:=_}=>aA N x f&&kT N as.toList args
  |_=>false)
 | .g _ _ _ _=>false
def lz (P:Program) (N:Nat) (ops:Array Oper) (o:Oper):SO->Bool
 | .g t want dst so=>(match o.guard with
  |some (j,want')=>want'==want&&(ops[j]?).bind (·.dst)==some t&&decide (t<N)
  |none=>false)&&o.dst==dst&&eG P N o so
 |so=>o.guard==none&&eG P N o so
def aY (P:Program) (N:Nat) (ops:Array Oper):List Oper->List SO->Bool
 |[],[]=>true
 |o::l,so::sos=>lz P N ops o so&&aY P N ops l sos
 |_,_=>false
section
variable {P:Program} {c:Cx} {σ:St} {κ:Nat->Value} {φ:Nat->List Nat} {a:Act} {w:World}
mutual
theorem HV (h:Nat->Ch):∀ (x:SV) (d:DV),x.toDV=some d->SV.lend h x=some d
 | .d _,d,hd=>by simpa only[SV.toDV,SV.lend] using hd
 | .nils,d,hd=>by simpa only[SV.toDV,SV.lend] using hd
 | .lit _ _ _,d,hd=>by simpa only[SV.lend] using hd
 | .tup _,d,hd=>by simpa only[SV.lend] using hd
 | .agg cs,d,hd=>by
  simp only[SV.toDV] at hd
  split at hd
  ·rename_i xs hxs
   simp only[SV.lend,kw h cs xs hxs]
   exact hd
  ·cases hd
 | .ref _ _,d,hd=>by simp[SV.toDV] at hd
 | .vec _,d,hd=>by simp[SV.toDV] at hd
 | .vref _ _ _ _,d,hd=>by simp[SV.toDV] at hd
 | .mp _,d,hd=>by simp[SV.toDV] at hd
 | .clo _ _,d,hd=>by simp[SV.toDV] at hd
 | .own _ _,d,hd=>by simp[SV.toDV] at hd
theorem kw (h:Nat->Ch):∀ (cs:List SV) (ds:List DV),SV.toDVs cs=some ds->SV.lends h cs=some ds
 |[],ds,hd=>by simpa only[SV.toDVs,SV.lends] using hd
 |c::cs,ds,hd=>by
  simp only[SV.toDVs] at hd
  split at hd
  ·rename_i x xs hx hxs
   simp only[SV.lends,HV h c x hx,kw h cs xs hxs]
   exact hd
  ·cases hd
end
theorem E3 (hr:cE c σ κ φ a w) {o:Oper} {d:Nat} {op:IV} (hm:mh P c.N o.op o.dst d op=true) {p:Prop} {σ':St} (hw:wr σ d op=some (p,σ')) (hp:p):ku P c o a w σ':=by
 obtain⟨dst,oop,ty,pos,aft,gd⟩:=o
 simp only at hm
 cases op with
 |boxM y=>
  simp only[mh,Oz,OI] at hm
  obtain⟨⟨rfl,hd⟩,hm⟩:=hm
  split at hm
  ·simp only[wr] at hw
   split at hw
   ·rename_i cs hc
    simp only[Oy,OB] at hw
    obtain⟨_,rfl⟩:=hw
    exact Mt hr hm hc ty pos aft gd (by simpa using hd)
   ·cases hw
  ·obtain⟨v,i,z,rfl,hi,hz,hconst⟩:=Bd hm
   simp only[wr,ev] at hw
   split at hw
   ·rename_i cs hc
    simp only[Oy,OB] at hw
    obtain⟨_,rfl⟩:=hw
    exact Jd hr hi hz hconst hc ty pos aft gd (by simpa using hd)
   ·cases hw
  ·cases hm
 |st n x y=>
  simp only[mh,Oz,OI] at hm
  obtain⟨rfl,hm⟩:=hm
  split at hm
  ·simp only[Oz,OI] at hm
   obtain⟨⟨⟨h1,h2⟩,h3⟩,h4⟩:=hm
   simp only[wr] at hw
   split at hw
   ·rename_i id off heq
    split at hw
    ·rename_i cs vs hh hv
     simp only[Oy,OB] at hw
     obtain⟨rfl,rfl⟩:=hw
     exact HO hr h1 h2 h3 h4 heq hh hv hp.1 hp.2 ty pos aft gd
    ·cases hw
   ·rename_i id sz i off heq
    split at hw
    ·rename_i e sz' rows vs hh hv
     split at hw
     ·rename_i r hrow
      simp only[Oy,OB] at hw
      obtain⟨rfl,rfl⟩:=hw
      obtain⟨rfl,hp1,hp2⟩:=hp
      exact HP hr h1 h2 h3 h4 heq hh hv hrow hp1 hp2 ty pos aft gd
     ·cases hw
    ·cases hw
   ·cases hw
  ·cases hm
 |app e sz x y=>
  simp only[mh,Oz,OI] at hm
  obtain⟨⟨rfl,hd⟩,hm⟩:=hm
  split at hm
  ·rename_i args ts
   split at hm
   ·rename_i x' y' t t' hargs hts
    simp only[Oz,OI] at hm
    obtain⟨⟨⟨h1,h2⟩,rfl⟩,h3⟩:=hm
    split at h3
    ·rename_i e' hu
     simp only[Oz,OI] at h3
     obtain⟨rfl,h3⟩:=h3
     split at h3
     ·rename_i i hi
      simp only[Oz,OI,OC] at h3
      obtain⟨⟨⟨h4,h5⟩,h6⟩,h7⟩:=h3
      split at h7
      ·rename_i z hz
       simp only[OI] at h7
       simp only[wr] at hw
       have hx:=ag hr h1
       split at hw
       ·rename_i id rows2 heq hyd
        rw[heq] at hx
        simp only[ae] at hx
        split at hw
        ·rename_i e2 sz2 rows hh
         simp only[Oy,OB] at hw
         obtain⟨rfl,rfl⟩:=hw
         obtain⟨rfl,rfl,hall,hlim⟩:=hp
         have hch:=hr.chunks id
         rw[hh] at hch
         simp only[kj] at hch
         exact zY hr hargs hts hu hi h4 h5 h6 hz h7 h2 hyd hall hlim (by rw[hx];exact hch) ty pos aft gd (by simpa using hd)
        ·cases hw
       ·rename_i rows2 heq hyd
        rw[heq] at hx
        simp only[ae] at hx
        simp only[Oy,OB] at hw
        obtain⟨rfl,rfl⟩:=hw
        obtain⟨hall,hlim⟩:=hp
        have hr':cE c ⟨σ.s,aH σ.h d .dead⟩ κ (aH φ d []) a w:=hr.drop d
        have:=zY (id:=d) (rows:=[]) hr' hargs hts hu hi h4 h5 h6 hz h7 h2 hyd hall (by simpa using hlim) (by rw[hx];exact⟨[],[],World.ownsRow_nil w 0 e' sz,by simp,by simp,by simp[am],by rw[an];rfl⟩) ty pos aft gd (by simpa using hd) (d:=d)
        simp only[OR] at this
        have e3:c6 ⟨σ.s,aH σ.h d .dead⟩ d d e' sz rows2=c6 σ d d e' sz rows2:=by
         unfold c6 St.swap
         simp only[St.mk.injEq,true_and]
         funext j
         by_cases hj:j=d
         ·subst hj;rw[an,an]
         ·rw[bf _ _ _ _ hj,bf _ _ _ _ hj];simp only[lv,bf _ _ _ _ hj]
        rw[e3] at this
        exact this
       ·rename_i sz' n cs rows2 heq hyd
        simp only[Oy,OB] at hw
        obtain⟨rfl,rfl⟩:=hw
        obtain⟨rfl,hpos,hall,hlim⟩:=hp
        exact Gd hr hargs hts hu hi h4 h6 hz h7 h1 heq h2 hyd hpos hall hlim ty pos aft gd (by simpa using hd)
       ·cases hw
      ·cases h7
     ·cases h3
    ·cases h3
   ·cases hm
  ·cases hm
 |appS e x y=>
  simp only[mh,Oz,OI] at hm
  obtain⟨⟨rfl,hd⟩,hm⟩:=hm
  split at hm
  ·split at hm
   ·rename_i x' y' t t' hargs hts
    simp only[Oz] at hm
    obtain⟨⟨⟨h1,h2⟩,hstr⟩,h3⟩:=hm
    split at hstr
    ·rename_i hs
     split at h3
     ·rename_i e' hu
      simp only[Oz,OI] at h3
      obtain⟨rfl,h3⟩:=h3
      split at h3
      ·rename_i i hi
       simp only[Oz,OI] at h3
       obtain⟨⟨h4,h5⟩,h6⟩:=h3
       split at h6
       ·rename_i hz
        simp only[wr] at hw
        have hx:=ag hr h1
        have hy:=ag hr h2
        split at hw
        ·rename_i id l heq heqy
         rw[heq] at hx
         rw[heqy] at hy
         simp only[ae,aQ] at hx hy
         split at hw
         ·rename_i e2 sz2 rows hh
          simp only[Oy,OB] at hw
          obtain⟨rfl,rfl⟩:=hw
          obtain⟨rfl,rfl,hlim⟩:=hp
          have hch:=hr.chunks id
          rw[hh] at hch
          simp only[kj] at hch
          exact GT hr hargs hts hu hs hi h4 h5 hz hy hlim (by rw[hx];exact hch) ty pos aft gd (by simpa using hd)
         ·cases hw
        ·rename_i l heq heqy
         rw[heq] at hx
         rw[heqy] at hy
         simp only[ae,aQ] at hx hy
         simp only[Oy,OB] at hw
         obtain⟨rfl,rfl⟩:=hw
         have hlim:=hp
         have hr':cE c ⟨σ.s,aH σ.h d .dead⟩ κ (aH φ d []) a w:=hr.drop d
         have:=GT (id:=d) (rows:=[]) hr' hargs hts hu hs hi h4 h5 hz hy (by simpa using hlim) (by rw[hx];exact⟨[],[],World.ownsRow_nil w 0 e' 1,by simp,by simp,by simp[am],by rw[an];rfl⟩) ty pos aft gd (by simpa using hd) (d:=d)
         simp only[OR] at this
         have e3:c6 ⟨σ.s,aH σ.h d .dead⟩ d d e' 1 (l.map fun b=>[SV.d (.int .u8 b.toNat)])=c6 σ d d e' 1 (l.map fun b=>[SV.d (.int .u8 b.toNat)]):=by
          unfold c6 St.swap
          simp only[St.mk.injEq,true_and]
          funext j
          by_cases hj:j=d
          ·subst hj;rw[an,an]
          ·rw[bf _ _ _ _ hj,bf _ _ _ _ hj];simp only[lv,bf _ _ _ _ hj]
         rw[e3] at this
         exact this
        ·cases hw
       ·cases h6
      ·cases h3
     ·cases h3
    ·cases hstr
   ·cases hm
  ·cases hm
 |mkmap kk=>
  simp only[mh,Oz,OI] at hm
  obtain⟨⟨rfl,hd⟩,hm⟩:=hm
  split at hm
  ·simp only[wr,Oy,OB] at hw
   obtain⟨_,rfl⟩:=hw
   exact Jf hr kk ty pos aft gd (by simpa using hd)
  ·cases hm
 |mset kk m k v=>
  simp only[mh,Oz,OI] at hm
  obtain⟨rfl,hm⟩:=hm
  split at hm
  ·simp only[Oz] at hm
   obtain⟨⟨⟨h1,h2⟩,h3⟩,h4⟩:=hm
   split at h4
   ·rename_i kt e ht
    simp only[OI] at h4
    simp only[wr] at hw
    split at hw
    ·rename_i id x hm' hk'
     split at hw
     ·rename_i kk' kv hh
      simp only[Oy,OB] at hw
      obtain⟨rfl,rfl⟩:=hw
      obtain⟨rfl,hf⟩:=hp
      exact K3 hr h1 h2 h3 ht h4 hm' hk' hh hf ty pos aft gd
     ·cases hw
    ·cases hw
   ·cases h4
  ·cases hm
 |bldM T e=>
  simp only[mh,Oz,OI] at hm
  obtain⟨⟨rfl,hd⟩,hm⟩:=hm
  split at hm
  ·rename_i t
   simp only[Oz,OI] at hm
   obtain⟨rfl,hm⟩:=hm
   split at hm
   ·rename_i i hi
    split at hm
    ·rename_i z hz
     split at hm
     ·rename_i hc
      simp only[wr,Oy,OB] at hw
      obtain⟨_,rfl⟩:=hw
      exact Ms hr hi hz hc ty pos aft gd (by simpa using hd)
     ·cases hm
    ·cases hm
   ·cases hm
  ·cases hm
 |mkS e sz zv x y=>
  simp only[mh,Oz,OI] at hm
  obtain⟨⟨rfl,hd⟩,hm⟩:=hm
  split at hm
  ·simp only[Oz] at hm
   obtain⟨⟨h1,h2⟩,h3⟩:=hm
   split at h3
   ·rename_i e' he
    simp only[Oz,OI] at h3
    obtain⟨rfl,h3⟩:=h3
    split at h3
    ·rename_i i hi
     simp only[Oz,OI,OC] at h3
     obtain⟨⟨⟨h4,h5⟩,h6⟩,h7⟩:=h3
     split at h7
     ·rename_i z hz
      simp only[Oz,OI] at h7
      simp only[wr] at hw
      split at hw
      ·rename_i cs k1 n k2 m hc hx hy
       simp only[Oy,OB] at hw
       obtain⟨rfl,rfl⟩:=hw
       obtain⟨hcs,h8,h9,h10⟩:=hp
       exact Mv hr he hi h4 h5 h6 hz h7.1 h7.2 hc h1 h2 hx hy hcs h8 h9 h10 ty pos aft gd (by simpa using hd)
      ·cases hw
     ·cases h7
    ·cases h3
   ·cases h3
  ·cases hm
 |slM e sz xs=>
  simp only[mh,Oz,OI] at hm
  obtain⟨⟨rfl,hd⟩,hm⟩:=hm
  split at hm
  ·simp only[Oz,OI] at hm
   obtain⟨⟨h1,h2⟩,h3⟩:=hm
   obtain⟨hrep,hidx⟩:=xc hr h2
   split at h3
   ·rename_i e' he
    simp only[Oz,OI] at h3
    obtain⟨rfl,h3⟩:=h3
    split at h3
    ·rename_i i hi
     simp only[Oz,OI,OC] at h3
     obtain⟨⟨⟨h4,h5⟩,h6⟩,h7⟩:=h3
     split at h7
     ·rename_i z hz
      simp only[OI] at h7
      simp only[wr] at hw
      split at hw
      ·rename_i rows hrows
       simp only[Oy,OB] at hw
       obtain⟨_,rfl⟩:=hw
       have:=Mu hr he hi h4 h5 h6 hz h7 h1 hrep (fun j q hj=>by simpa using hidx j q hj) hrows ty pos aft gd (by simpa using hd)
       simpa using this
      ·cases hw
     ·cases h7
    ·cases h3
   ·cases h3
  ·cases hm
 |trunc sz y h=>
  simp only[mh,Oz,OI] at hm
  obtain⟨⟨rfl,hd⟩,hm⟩:=hm
  split at hm
  ·simp only[Oz] at hm
   obtain⟨⟨h1,h2⟩,h3⟩:=hm
   split at h3
   ·rename_i e he
    simp only[Oz,OI,OC] at h3
    obtain⟨⟨h4,h5⟩,h6⟩:=h3
    simp only[wr] at hw
    split at hw
    ·rename_i id k n hx hn
     split at hw
     ·rename_i e' sz' rows hh
      simp only[Oy,OB] at hw
      obtain⟨rfl,rfl⟩:=hw
      obtain⟨rfl,h0,hle⟩:=hp
      exact Je hr he h4 h5 h1 h2 hx hn hh h0 hle ty pos aft gd (by simpa using hd)
     ·cases hw
    ·cases hw
   ·cases h3
  ·cases hm
theorem Jv {h:Nat->Ch} {xs ins outs:List SV} {L:List (Nat×Ch)} (hh:HandL h xs ins outs L):outs.length=xs.length:=by
 induction hh<;>simp_all
theorem ze {x:Operand} {f:FuncId} {args:Array Operand} {ts:Array TypeId} {caps:List Value} (hx:a.eval x= .func (.func f) #[] caps.toArray) (hf:o_ P f=true) (dst:Option Tmp) (ty:TypeId) (pos:String) (aft:Array Edge) (gd:Option (Nat×Bool)):
  (execOp a.eval ⟨dst,.call {callee:= .value x,args,argTypes:=ts},ty,pos,aft,gd⟩).run P w= .ok (.enter f (args.toList.map a.eval++caps).toArray) w:=by
 unfold o_ at hf
 cases hfn:P.funcs[f]? with
 |none=>simp[hfn] at hf
 |some fn=>
  simp only[hfn,Oz,bne_iff_ne,ne_eq] at hf
  obtain⟨h1,h2⟩:=hf
  have e:(args.map a.eval)++caps.toArray=(args.toList.map a.eval++caps).toArray:=by
   rw[<-Pm];simp
  have h3:(fn.name== "runtime.NumGoroutine")=false:=by simpa using h2
  have h4:fn.body.isNone=false:=by cases hb:fn.body<;>simp_all
  simp only[execOp,resolve,hx,Deferred.ofValue,Sem.run_bind,Sem.run_pure,Result.andThen_ok,invoke,callFunc,program,Sem.run,hfn,h3,h4,O5,Pp]
  simp[e]
def N4:SO->Bool
 | .q _ _ _ _=>true
 |_=>false
theorem E4 {ops:Array Oper} (hr:cE c σ κ φ a w) {o:Oper} {so:SO} (hq:N4 so=false) (hm:eG P c.N o so=true) {K:St->Prop} (h:AO P so σ K) {Q:Exit->Act->World->Prop} {next:Act->World->Prop}
  (hn:∀ σ' κ' φ' a' w',cE c σ' κ' φ' a' w'->K σ'->next a' w'):o.wp P a w next Q:=by
 cases so with
 |q _ _ _ _=>simp[N4] at hq
 |r dst op=>
  simp only[eG,Oz,OI,OC] at hm
  obtain⟨⟨h1,h2⟩,h3⟩:=hm
  simp only[AO] at h
  split at h
  ·rename_i p v hrd
   obtain⟨u,w',hrun,hb,hrep⟩:=EN hr h3 hrd h.1
   unfold Oper.wp
   rw[hrun]
   simp only[Oper.upon,h1]
   exact hn _ _ _ _ _ (hr.put h2 hb hrep) h.2
  ·exact h.elim
 |o dst op=>
  simp only[eG,Oz,OI,OC] at hm
  obtain⟨⟨h1,h2⟩,h3⟩:=hm
  simp only[AO] at h
  obtain⟨σ1,himp,p,v,hrd,hp,hK⟩:=h
  obtain⟨κ1,φ1,hr⟩:=himp _ _ _ _ _ hr
  obtain⟨u,w',hrun,hb,hrep⟩:=EN hr h3 hrd hp
  unfold Oper.wp
  rw[hrun]
  simp only[Oper.upon,h1]
  exact hn _ _ _ _ _ (hr.put h2 hb hrep) hK
 |c dst f args=>
  simp only[eG,Oz,OI,OC] at hm
  obtain⟨⟨h1,h2⟩,h3⟩:=hm
  simp only[AO] at h
  obtain⟨odst,oop,ty,pos,aft,gd⟩:=o
  simp only at h1 h3
  subst h1
  split at h3
  ·rename_i x as ts
   simp only[Oz] at h3
   split at h
   ·rename_i fid caps ds heq heqs
    obtain⟨res,⟨hcal,hspec⟩,hflat,hK⟩:=h
    have hx:=ag hr h3.1
    rw[heq] at hx
    simp only[ae,aQ] at hx
    obtain⟨cvs,hx,hcaps⟩:=hx
    have hargs:=za hr _ _ _ (jd hr h3.2) heqs
    unfold Oper.wp
    rw[ze (P:=P) (w:=w) (args:=as) hx hcal]
    simp only[Oper.upon]
    rcases hflat with hd|hf
    ·obtain⟨es,hes⟩:=Pu.1 hd
     have hargs':=ai.toDVs _ _ _ (jd hr h3.2) hes
     have hee:es=ds:=by
      have key:∀ (h:Nat->Ch) (cs:List SV) (es:List DV),SV.toDVs cs=some es->SV.lends h cs=some es:=kw
      have:=key σ.h _ _ hes
      rw[heqs] at this;simpa using this.symm
     subst hee
     refine(hspec w (own c φ) _ (fun b hb=>hr.own_lt hb) (hargs'.append hcaps) hr.good).mono ?_
     rintro e w' ⟨v,rfl,hrep,hb⟩
     simp only
     exact hn _ _ _ _ _ (hr.put h2 hb (by simpa only[ae] using hrep)) hK
    ·refine(hspec w c.M0 _ (fun b hb=>O4 (hr.m0 b hb).1 hr.size) (hargs.append (hcaps.ext (lL.shrink fun b hb=> .inl hb))) hr.good).mono ?_
     rintro e w' ⟨v,rfl,hrep,hb⟩
     simp only
     exact hn _ _ _ _ _ (hr.put h2 hb (by simp only[ae];exact hrep.flat _ _ hf)) hK
   ·exact h.elim
  ·cases h3
 |w d op=>
  simp only[eG] at hm
  simp only[AO] at h
  obtain⟨σ1,himp,p,σ',hw,hp,hK⟩:=h
  obtain⟨κ1,φ1,hr⟩:=himp _ _ _ _ _ hr
  obtain⟨v,w',κ',φ',hrun,hcase⟩:=E3 hr hm hw hp
  unfold Oper.wp
  rw[hrun]
  rcases hcase with⟨u,rfl,href⟩|⟨rfl,href⟩
  ·simp only[Oper.upon];exact hn _ _ _ _ _ href hK
  ·simp only[Oper.upon];exact hn _ _ _ _ _ href hK
 |x d op late=>
  simp only[eG] at hm
  simp only[AO] at h
  split at h
  ·rename_i p σ' hw
   obtain⟨v,w',κ',φ',hrun,hcase⟩:=E3 hr hm hw h.1
   unfold Oper.wp
   rw[hrun]
   rcases hcase with⟨u,rfl,href⟩|⟨rfl,href⟩
   ·simp only[Oper.upon];exact hn _ _ _ _ _ href h.2.2
   ·simp only[Oper.upon];exact hn _ _ _ _ _ href h.2.2
  ·exact h.elim
 |p dst f args=>
  simp only[eG,Oz,OI] at hm
  obtain⟨⟨h1,h2⟩,h3⟩:=hm
  simp only[AO] at h
  obtain⟨σ1,himp,fid,caps,ins,outs,res,L,σ2,heq,⟨hcal,hspec⟩,hclosed,hhand,htake,hK⟩:=h
  obtain⟨κ1,φ1,hr⟩:=himp _ _ _ _ _ hr
  obtain⟨odst,oop,ty,pos,aft,gd⟩:=o
  simp only at h1 h3
  subst h1
  split at h3
  ·rename_i x as ts
   simp only[Oz] at h3
   have hx:=ag hr h3.1
   rw[heq] at hx
   simp only[ae,aQ] at hx
   obtain⟨cvs,hx,hcaps⟩:=hx
   have hxs:=jd hr h3.2
   unfold Oper.wp
   rw[ze (P:=P) (w:=w) (args:=as) hx hcal]
   simp only[Oper.upon]
   have hMF:∀ b,((own c φ1 b/\b∉iC φ1 L)\/b∈iC φ1 L)->own c φ1 b:=fun b hb=>by
    rcases hb with hb|hb
    ·exact hb.1
    ·obtain⟨id,_,hi⟩:=cd.1 hb;exact .inr ⟨id,hi⟩
   have hin:=(Ji hr (M:=fun b=>(own c φ1 b/\b∉iC φ1 L)\/b∈iC φ1 L) hMF hhand hxs).append (am.of_S (κ:=κ0) _ _ (ai.of_d (hcaps.ext (lL.shrink hMF))))
   rw[OY] at hin
   refine(hspec w (fun b=>own c φ1 b/\b∉iC φ1 L) _ (iC φ1 L) (fun b hb=>⟨hr.own_lt hb.1,hb.2⟩) (fun b hb=>hr.own_lt (hMF b (.inr hb))) (xe hr hhand).1 hin hr.good (fun t ht hb=>by obtain⟨id,_,hi⟩:=cd.1 hb;exact hr.free t ht hi)).mono ?_
   rintro e w' ⟨v,F1,F2,rfl,hb1,hb2,hnod,hbin,hchg⟩
   simp only
   obtain⟨G1,G2,rfl,hb3,hb4⟩:=hb1.split
   have hlen:outs.length=(as.toList.map a.eval).length:=by
    have h1:=hxs.length
    have h2:outs.length=(args.map (ev σ1.s)).length:=Jv hhand
    omega
   rw[hlen,List.take_left] at hb3
   have hcapno:∀ (l:List DV),SV.noOwns (l.map .d)=true:=fun l=>by induction l with|nil=>rfl|cons d l ih=>simp[SV.noOwns,SV.noOwn,ih]
   obtain⟨_,rfl⟩:=am.to_S _ _ _ (hcapno caps) hb4
   rw[OY] at hb3 hb2 hnod hbin
   unfold takes at htake
   cases odst with
   |none=>
    simp only at htake
    split at htake
    ·rename_i h0
     simp only[Oy] at htake;subst htake
     obtain⟨φ2,href,_,_⟩:=hr.called hhand hxs hb3 hnod hbin hchg
     exact hn _ _ _ _ _ href hK
    ·cases htake
   |some d=>
    simp only at htake
    split at htake
    ·rename_i h0
     simp only[Oy] at htake;subst htake
     obtain⟨φ2,href,hown,_⟩:=hr.called hhand hxs hb3 hnod hbin hchg
     obtain⟨hs,_⟩:=aK.to_S _ _ _ (Bx res h0).1 hb2
     exact hn _ _ _ _ _ (href.putS (dst:=d) (by simpa using h2) ((hs.kappa _ _ hclosed).ext (lL.shrink hown))) hK
    ·split at htake
     ·rename_i h0 h1
      split at htake
      ·rename_i m vv ho1
       split at htake
       ·rename_i ch mk hoc
        simp only[Oy] at htake;subst htake
        obtain⟨u,hO,hplug⟩:=E2 res v F2 m vv hclosed h1 ho1 hb2
        obtain⟨hone,hmk⟩:=Bv hO hoc
        obtain⟨φ2,href,hown⟩:=hr.called2 hhand hxs hb3 hnod hbin hchg (dst:=d) (u:=u) (ch:=ch) hone ((qB hO.shape hoc (by rw[an])).2 hO)
        exact hn _ _ _ _ _ (href.putS (dst:=d) (by simpa using h2) ((hplug _ _ (hmk _ d (by rw[an]))).ext (lL.shrink hown))) hK
       ·cases htake
      ·cases htake
     ·cases htake
  ·cases h3
 |g _ _ _ _=>simp[eG] at hm
theorem Ow {d:Nat} {f:SX} {args:List SX} {late:List (Nat×Nat×uk)} {K:St->Prop} (h:AO P (.q d f args late) σ K):AO P (.p (some d) f args) σ K:=by
 simp only[AO] at h⊢
 obtain⟨fid,ins,outs,res,L,σ',h1,h3,h4,h2,h5,_,h7⟩:=h
 exact⟨σ,dB.refl _,fid,[],ins,outs,res,L,σ',h1,by simpa using h3,h4,h2,h5,h7⟩
theorem G4 {ops:Array Oper} (hr:cE c σ κ φ a w) {o:Oper} {so:SO} (hm:eG P c.N o so=true) {K:St->Prop} (h:AO P so σ K) {Q:Exit->Act->World->Prop} {next:Act->World->Prop}
  (hn:∀ σ' κ' φ' a' w',cE c σ' κ' φ' a' w'->K σ'->next a' w'):o.wp P a w next Q:=by
 cases hq:N4 so with
 |false=>exact E4 (ops:=ops) hr hq hm h hn
 |true=>
  cases so<;>simp[N4] at hq
  rename_i d f args late
  exact E4 (ops:=ops) (so:= .p (some d) f args) hr rfl (by simpa only[eG] using hm) (Ow h) hn
theorem Bz {N:Nat} {o:Oper} {so:SO} {d:Nat} (h:eG P N o so=true) (hd:o.dst=some d):d<N:=by
 cases so with
 |r dst op=>simp only[eG,Oz,OI,OC,hd,Oy] at h;omega
 |o dst op=>simp only[eG,Oz,OI,OC,hd,Oy] at h;omega
 |c dst f args=>simp only[eG,Oz,OI,OC,hd,Oy] at h;omega
 |p dst f args=>
  simp only[eG,Oz,OI,hd] at h
  obtain⟨⟨rfl,h2⟩,_⟩:=h
  simpa using h2
 |w e op=>cases op<;>simp[eG,mh,hd] at h<;>omega
 |x e op _=>cases op<;>simp[eG,mh,hd] at h<;>omega
 |q e f args _=>
  simp only[eG,Oz,OI,OC,hd,Oy] at h;omega
 |g _ _ _ _=>simp[eG] at h
theorem E5 {ops:Array Oper} (hr:cE c σ κ φ a w) {j t:Nat} {b:Bool} (hj:(ops[j]?).bind (·.dst)=some t) (ht:t<c.N) (hs:σ.s t= .d (.bool b)):yielded ops a.tmps j=some b:=by
 have:=hr.slots t ht
 rw[hs] at this
 simp only[ae,aQ] at this
 have hlt:t<a.tmps.size:=by rw[hr.ntmps];exact ht
 have hg:a.tmps[t]?=some (.bool b):=by
  simp only[PB] at this
  rw[PL hlt] at this⊢
  simpa using this
 unfold yielded
 simp[hj,hg]
theorem Gk {ops:Array Oper} (hr:cE c σ κ φ a w) {j t:Nat} (hj:(ops[j]?).bind (·.dst)=some t) (ht:t<c.N) (hs:σ.s t= .d (.tup [])):yielded ops a.tmps j=none:=by
 have:=hr.slots t ht
 rw[hs] at this
 simp only[ae,aQ,aI] at this
 obtain⟨vs,this,rfl⟩:=this
 have hlt:t<a.tmps.size:=by rw[hr.ntmps];exact ht
 have hg:a.tmps[t]?=some (.tuple #[]):=by
  simp only[PB] at this
  rw[PL hlt] at this⊢
  simpa using this
 unfold yielded
 simp[hj,hg]
theorem wi {ops:Array Oper} (hr:cE c σ κ φ a w) {o:Oper} {so:SO} (hm:lz P c.N ops o so=true) {K:St->Prop} (h:AO P so σ K) {Q:Exit->Act->World->Prop} {next:Act->World->Prop}
  (hn:∀ σ' κ' φ' a' w',cE c σ' κ' φ' a' w'->K σ'->next a' w'):if Region.wanted o (yielded ops a.tmps) then o.wp P a w next Q\/(o.asks P a w/\LetsOut Q) else next (a.put o.dst undef) w:=by
 have plain:o.guard=none->eG P c.N o so=true->if Region.wanted o (yielded ops a.tmps) then o.wp P a w next Q\/(o.asks P a w/\LetsOut Q) else next (a.put o.dst undef) w:=fun hg hu=>by
  have:Region.wanted o (yielded ops a.tmps)=true:=by simp[Region.wanted,hg]
  rw[this,Qa rfl]
  exact .inl (G4 (ops:=ops) hr hu h hn)
 have split:∀ so,lz P c.N ops o so=true->(∀ t want dst so',so≠ .g t want dst so')->o.guard=none/\eG P c.N o so=true:=fun so hm hne=>by
  cases so with
  |g t want dst so'=>exact absurd rfl (hne t want dst so')
  |_=>simpa[lz] using hm
 cases so with
 |g t want dst so'=>
  simp only[lz,Oz,OI] at hm
  obtain⟨⟨h1,h2⟩,h3⟩:=hm
  split at h1
  ·rename_i j want' hg
   simp only[Oz,OI,OC] at h1
   obtain⟨⟨rfl,h4⟩,h5⟩:=h1
   simp only[AO] at h
   split at h
   ·rename_i b hs
    have hy:=E5 (ops:=ops) hr h4 h5 hs
    by_cases hb:b=want'
    ·have:Region.wanted o (yielded ops a.tmps)=true:=by simp[Region.wanted,hg,hy,hb]
     rw[this,Qa rfl]
     exact .inl (G4 (ops:=ops) hr h3 (h.1 hb) hn)
    ·have:Region.wanted o (yielded ops a.tmps)=false:=by simp[Region.wanted,hg,hy,hb]
     rw[this]
     simp only[O5,Pp]
     have hK:=h.2 (by cases b<;>cases want'<;>simp_all)
     rw[h2]
     cases dst with
     |none=>exact hn _ _ _ _ _ hr hK
     |some d=>exact hn _ _ _ _ _ (hr.putS (Bz h3 h2) (by simp[ae,aQ,aI,undef])) hK
   ·rename_i hs
    have hy:=Gk (ops:=ops) hr h4 h5 hs
    have:Region.wanted o (yielded ops a.tmps)=false:=by simp[Region.wanted,hg,hy]
    rw[this]
    simp only[O5,Pp]
    rw[h2]
    cases dst with
    |none=>exact hn _ _ _ _ _ hr h
    |some d=>exact hn _ _ _ _ _ (hr.putS (Bz h3 h2) (by simp[ae,aQ,aI,undef])) h
   ·exact h.elim
  ·cases h1
 |r dst op=>obtain⟨h1,h2⟩:=split _ hm oS;exact plain h1 h2
 |c dst f args=>obtain⟨h1,h2⟩:=split _ hm oS;exact plain h1 h2
 |w d op=>obtain⟨h1,h2⟩:=split _ hm oS;exact plain h1 h2
 |o d op=>obtain⟨h1,h2⟩:=split _ hm oS;exact plain h1 h2
 |p d f args=>obtain⟨h1,h2⟩:=split _ hm oS;exact plain h1 h2
 |x d op late=>obtain⟨h1,h2⟩:=split _ hm oS;exact plain h1 h2
 |q d f args late=>obtain⟨h1,h2⟩:=split _ hm oS;exact plain h1 h2
theorem wj {ops:Array Oper} {K:St->Prop} {Q:Exit->Act->World->Prop} (hQ:∀ σ' κ' φ' a' w',cE c σ' κ' φ' a' w'->K σ'->Q .normal a' w'):
  ∀ (sos:List SO) (l:List Oper) (k:Nat) (σ:St) (κ:Nat->Value) (φ:Nat->List Nat) (a:Act) (w:World),(∀ j o,l[j]?=some o->ops[k+j]?=some o)->aY P c.N ops l sos=true->cE c σ κ φ a w->bh P K sos σ->
  wpOps P ops Q (List.range' k l.length) a w
 |[],l,k,σ,κ,φ,a,w,hl,hm,hr,h=>by
  cases l with
  |nil=>simp only[Pr,List.range'_zero,wpOps];exact hQ _ _ _ _ _ hr h
  |cons _ _=>simp[aY] at hm
 |so::sos,l,k,σ,κ,φ,a,w,hl,hm,hr,h=>by
  cases l with
  |nil=>simp[aY] at hm
  |cons o l=>
   simp only[aY,Oz] at hm
   simp only[OW,List.range'_succ,wpOps]
   have ho:ops[k]?=some o:=by simpa using hl 0 o oS
   simp only[ho]
   simp only[bh] at h
   exact wi hr hm.1 h fun σ' κ' φ' a' w' hr' hk=>wj hQ sos l (k+1) σ' κ' φ' a' w' (fun j o' hj=>by
    have:=hl (j+1) o' (by simpa using hj)
    rw[show k+1+j=k+(j+1) by omega];exact this) hm.2 hr' hk
theorem D4 {id:Nat} {ops:Array Oper} {sos:List SO} {K:St->Prop} {Q:Exit->Act->World->Prop} (hQ:∀ σ' κ' φ' a' w',cE c σ' κ' φ' a' w'->K σ'->Q .normal a' w') (hm:aY P c.N ops ops.toList sos=true) (hr:cE c σ κ φ a w) (h:bh P K sos σ):
  (Code.region id ops false).wp P Q a w:=by
 refine wp_region ?_
 have:=wj (P:=P) (ops:=ops) hQ sos ops.toList 0 σ κ φ a w (fun j o hj=>by simpa using hj) hm hr h
 simpa[Qr] using this
end
