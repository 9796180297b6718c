/-
  My text.
-/
import Derived.Test.YtgmnipfafmphaaaGreatDoorSYEngJ
namespace Go.Proofs.YtgmnipfafmphaaaGreatDoor
set_option linter.unusedSimpArgs false
set_option linter.unusedVariables false
open Go.RowKit
variable {K:St->Prop} {O:St} {Q:Exit->Act->World->Prop} {d:Nat} {h:Nat->Ch} {j:Nat} {next:Act->World->Prop} {o:Oper} {ops:Array Oper} {t:Nat}
def bm (σ O:St):Prop:=∀ (c:Cx) (κ:Nat->Value) (φ:Nat->List Nat) (a:Act) (w:World),cW c σ κ φ a w->∃ N h7,cW c O N h7 a w
theorem bm.refl (σ:St):bm σ σ:=fun _ κ φ _ _ h=>⟨κ,φ,h⟩
theorem bm.trans {σ b:St} (h:bm σ O) (k:bm O b):bm σ b:=fun c κ φ a w D=>by
 obtain⟨N,h7,h8⟩:=h c κ φ a w D
 exact k c N h7 a w h8
mutual
def SV.nOwn:SV->Nat
 | .own _ _=>1
 | .agg cs=>SV.nOwns cs
 | .tup cs=>SV.nOwns cs
 | .d _=>0
 | .nils=>0
 | .lit _ _ _=>0
 | .ref _ _=>0
 | .vec _=>0
 | .vref _ _ _ _=>0
 | .mp _=>0
def SV.nOwns:List SV->Nat
 |[]=>0
 |c::cs=>SV.nOwn c+SV.nOwns cs
end
mutual
def SV.own1:SV->Option (bj×DV)
 | .own m v=>some (m,v)
 | .agg cs=>SV.own1s cs
 | .tup cs=>SV.own1s cs
 | .d _=>none
 | .nils=>none
 | .lit _ _ _=>none
 | .ref _ _=>none
 | .vec _=>none
 | .vref _ _ _ _=>none
 | .mp _=>none
def SV.own1s:List SV->Option (bj×DV)
 |[]=>none
 |c::cs=>match SV.own1 c with|some x=>some x|none=>SV.own1s cs
end
mutual
def SV.plug (y:SV):SV->SV
 | .own _ _=>y
 | .agg cs=> .agg (SV.plugs y cs)
 | .tup cs=> .tup (SV.plugs y cs)
 | .d v=> .d v
 | .nils=> .nils
 | .lit s n cs=> .lit s n cs
 | .ref i o=> .ref i o
 | .vec i=> .vec i
 | .vref i s k o=> .vref i s k o
 | .mp i=> .mp i
def SV.plugs (y:SV):List SV->List SV
 |[]=>[]
 |c::cs=>SV.plug y c::SV.plugs y cs
end
mutual
theorem Av:∀ (x:SV),x.nOwn=0->x.noOwn=true/\∀ y,SV.plug y x=x
 | .own _ _,h=>by simp[SV.nOwn] at h
 | .agg cs,h=>by
  obtain⟨h1,h2⟩:=tY cs (by simpa[SV.nOwn] using h)
  exact⟨by simpa[SV.noOwn] using h1,fun y=>by simp[SV.plug,h2 y]⟩
 | .tup cs,h=>by
  obtain⟨h1,h2⟩:=tY cs (by simpa[SV.nOwn] using h)
  exact⟨by simpa[SV.noOwn] using h1,fun y=>by simp[SV.plug,h2 y]⟩
 | .d _,_=>⟨rfl,fun _=>rfl⟩
 | .nils,_=>⟨rfl,fun _=>rfl⟩
 | .lit _ _ _,_=>⟨rfl,fun _=>rfl⟩
 | .ref _ _,_=>⟨rfl,fun _=>rfl⟩
 | .vec _,_=>⟨rfl,fun _=>rfl⟩
 | .vref _ _ _ _,_=>⟨rfl,fun _=>rfl⟩
 | .mp _,_=>⟨rfl,fun _=>rfl⟩
theorem tY:∀ (cs:List SV),SV.nOwns cs=0->SV.noOwns cs=true/\∀ y,SV.plugs y cs=cs
 |[],_=>⟨rfl,fun _=>rfl⟩
 |c::cs,h=>by
  simp only[SV.nOwns] at h
  obtain⟨h1,h2⟩:=Av c oM
  obtain⟨E,h4⟩:=tY cs oM
  exact⟨by simp[SV.noOwns,h1,E],fun y=>by simp[SV.plugs,h2 y,h4 y]⟩
end
section
variable {w:World} {M:Nat->Prop} {κ:Nat->Value}
mutual
theorem Li:∀ (x:SV),x.own1≠none->x.nOwn≠0
 | .own _ _,_=>by simp[SV.nOwn]
 | .agg cs,h=>by simp only[SV.nOwn];exact Ee cs (by simpa[SV.own1] using h)
 | .tup cs,h=>by simp only[SV.nOwn];exact Ee cs (by simpa[SV.own1] using h)
 | .d _,h=>by simp[SV.own1] at h
 | .nils,h=>by simp[SV.own1] at h
 | .lit _ _ _,h=>by simp[SV.own1] at h
 | .ref _ _,h=>by simp[SV.own1] at h
 | .vec _,h=>by simp[SV.own1] at h
 | .vref _ _ _ _,h=>by simp[SV.own1] at h
 | .mp _,h=>by simp[SV.own1] at h
theorem Ee:∀ (cs:List SV),SV.own1s cs≠none->SV.nOwns cs≠0
 |[],h=>by simp[SV.own1s] at h
 |c::cs,h=>by
  simp only[SV.own1s] at h
  simp only[SV.nOwns]
  split at h
  ·rename_i x hx
   have:=Li c (by rw[hx];simp)
   omega
  ·have:=Ee cs h
   omega
end
mutual
theorem Lj:∀ (x:SV),x.own1=none->x.nOwn=0
 | .own _ _,h=>by simp[SV.own1] at h
 | .agg cs,h=>by simp only[SV.nOwn];exact Ef cs (by simpa[SV.own1] using h)
 | .tup cs,h=>by simp only[SV.nOwn];exact Ef cs (by simpa[SV.own1] using h)
 | .d _,_=>rfl
 | .nils,_=>rfl
 | .lit _ _ _,_=>rfl
 | .ref _ _,_=>rfl
 | .vec _,_=>rfl
 | .vref _ _ _ _,_=>rfl
 | .mp _,_=>rfl
theorem Ef:∀ (cs:List SV),SV.own1s cs=none->SV.nOwns cs=0
 |[],_=>rfl
 |c::cs,h=>by
  simp only[SV.own1s] at h
  split at h
  ·cases h
  ·rename_i hx
   simp only[SV.nOwns,Lj c hx,Ef cs h]
end
mutual
theorem FB:∀ (x:SV) (v:Value) (F:List Nat) (m:bj) (d:DV),x.closed=true->x.nOwn=1->x.own1=some (m,d)->aO w M κ x v F->∃ u,eO w M m d u F/\∀ (N:Nat->Value) y,ai w M N y u->ai w M N (SV.plug y x) v
 | .own m' d',v,F,m,d,_,_,ho,D=>by
  simp only[SV.own1,SN,SU] at ho
  obtain⟨rfl,rfl⟩:=ho
  simp only[aO] at D
  exact⟨v,D,fun N y hy=>by simpa only[SV.plug] using hy⟩
 | .agg cs,v,F,m,d,hc,hn,ho,D=>by
  simp only[aO] at D
  obtain⟨vs,rfl,h1,h2⟩:=D
  obtain⟨u,k1,k2⟩:=xy cs vs F m d (by simpa[SV.closed] using hc) (by simpa[SV.nOwn] using hn) (by simpa[SV.own1] using ho) h2
  exact⟨u,k1,fun N y hy=>by simp only[SV.plug,ai];exact⟨vs,rfl,h1,k2 N y hy⟩⟩
 | .tup cs,v,F,m,d,hc,hn,ho,D=>by
  simp only[aO] at D
  obtain⟨vs,rfl,h2⟩:=D
  obtain⟨u,k1,k2⟩:=xy cs vs F m d (by simpa[SV.closed] using hc) (by simpa[SV.nOwn] using hn) (by simpa[SV.own1] using ho) h2
  exact⟨u,k1,fun N y hy=>by simp only[SV.plug,ai];exact⟨vs,rfl,k2 N y hy⟩⟩
 | .d _,_,_,_,_,_,_,ho,_=>by simp[SV.own1] at ho
 | .nils,_,_,_,_,_,_,ho,_=>by simp[SV.own1] at ho
 | .lit _ _ _,_,_,_,_,_,_,ho,_=>by simp[SV.own1] at ho
 | .ref _ _,_,_,_,_,_,_,ho,_=>by simp[SV.own1] at ho
 | .vec _,_,_,_,_,_,_,ho,_=>by simp[SV.own1] at ho
 | .vref _ _ _ _,_,_,_,_,_,_,ho,_=>by simp[SV.own1] at ho
 | .mp _,_,_,_,_,_,_,ho,_=>by simp[SV.own1] at ho
theorem xy:∀ (cs:List SV) (vs:List Value) (F:List Nat) (m:bj) (d:DV),SV.closeds cs=true->SV.nOwns cs=1->SV.own1s cs=some (m,d)->ap w M κ cs vs F->∃ u,eO w M m d u F/\∀ (N:Nat->Value) y,ai w M N y u->an w M N (SV.plugs y cs) vs
 |[],_,_,_,_,_,_,ho,_=>by simp[SV.own1s] at ho
 |c::cs,vs,F,m,d,hc,hn,ho,D=>by
  simp only[ap] at D
  obtain⟨v,R,W,F2,rfl,rfl,h1,h2⟩:=D
  simp only[SV.closeds,SR] at hc
  simp only[SV.nOwns] at hn
  simp only[SV.own1s] at ho
  split at ho
  ·rename_i x hx
   simp only[SN] at ho;subst ho
   have r:c.nOwn≠0:=fun h0=>by
    have:∀ (x:SV),x.own1≠none->x.nOwn≠0:=Li
    exact this c (by rw[hx];simp) h0
   obtain⟨u,k1,k2⟩:=FB c v W m d hc.1 oM hx h1
   obtain⟨k3,k4⟩:=tY cs oM
   obtain⟨k5,rfl⟩:=ap.to_S cs R F2 k3 h2
   refine⟨u,by simpa using k1,fun N y hy=> ?_⟩
   simp only[SV.plugs,an,k4 y]
   exact⟨v,R,rfl,k2 N y hy,k5.kappa _ _ hc.2⟩
  ·rename_i hx
   have h4:c.nOwn=0:=Lj c hx
   obtain⟨k3,k4⟩:=Av c h4
   obtain⟨k5,rfl⟩:=aO.to_S c v W k3 h1
   obtain⟨u,k1,k2⟩:=xy cs R F2 m d hc.2 oM ho h2
   refine⟨u,by simpa using k1,fun N y hy=> ?_⟩
   simp only[SV.plugs,an,k4 y]
   exact⟨v,R,rfl,k5.kappa _ _ hc.1,k2 N y hy⟩
end
end
def takes (σ:St) (L:List (Nat×Ch)) (dst:Option Nat) (res:SV):Option St:=
 match dst with
 |none=>if res.nOwn=0 then some ⟨σ.s,iT L σ.h⟩ else none
 |some d=>if res.nOwn=0 then some ⟨am σ.s d res,iT L σ.h⟩ else if res.nOwn=1 then
   match res.own1 with
   |some (m,v)=>match cf m v with
    |some (ch,mk)=>some ⟨am (bl d .any σ.s) d (SV.plug (mk d) res),am (bG d .any (iT L σ.h)) d ch⟩
    |none=>none
   |none=>none
  else none
inductive SO where
 |r (dst:Nat) (op:oX)
 |c (dst:Nat) (f:SX) (args:List SX)
 |o (dst:Nat) (op:oX)
 |w (dst:Nat) (op:NB)
 |p (dst:Option Nat) (f:SX) (args:List SX)
 |x (dst:Nat) (op:NB) (late:List (Nat×Nat×oX))
 |q (dst:Nat) (f:SX) (args:List SX) (late:List (Nat×Nat×oX))
 |g (t:Nat) (want:Bool) (dst:Option Nat) (o:SO)
variable {so:SO}
def putS (σ:St) (dst:Option Nat) (v:SV):St:=
 match dst with
 |some d=>⟨am σ.s d v,σ.h⟩
 |none=>σ
def Pa (h:Nat->Ch) (s:Nat->SV) (op:oX):Option (Prop×SV):=
 match op with
 | .gd t want op=>match s t with
  | .d (.bool b)=>if b=want then rd h s op else some (True,.d (.tup []))
  | .d (.tup [])=>some (True,.d (.tup []))
  |_=>none
 |op=>rd h s op
theorem PY {s:Nat->SV} {op:oX} {x:Prop×SV} (D:rd h s op=some x):Pa h s op=some x:=by
 cases op<;>first|exact D|(simp only[rd] at D;cases D)
def oQ (σ:St):List (Nat×Nat×oX)->Prop
 |[]=>True
 |(_,t,op)::l=>(match Pa σ.h σ.s op with|some (p,v)=>p/\v=σ.s t|none=>False)/\oQ σ l
def AO (P:Program):SO->St->(St->Prop)->Prop
 | .r dst op,σ,K=>match rd σ.h σ.s op with
  |some (p,v)=>p/\K ⟨am σ.s dst v,σ.h⟩
  |none=>False
 | .c dst f args,σ,K=>match ev σ.s f,SV.lends σ.h (args.map (ev σ.s)) with
  | .d (.fn F caps),some as=>∃ res,ac P F (as++caps) res/\((SV.toDVs (args.map (ev σ.s))).isSome=true\/res.flat=true)/\K ⟨am σ.s dst (.d res),σ.h⟩
  |_,_=>False
 | .o dst op,σ,K=>∃ j,bm σ j/\∃ p v,rd j.h j.s op=some (p,v)/\p/\K ⟨am j.s dst v,j.h⟩
 | .w dst op,σ,K=>∃ j,bm σ j/\∃ p O,wr j dst op=some (p,O)/\p/\K O
 | .p dst f args,σ,K=>∃ j,bm σ j/\∃ F caps ins outs res L r6,ev j.s f= .d (.fn F caps)/\bu P F (ins++caps.map .d) res (outs++caps.map .d)/\res.closed=true/\
   HandL j.h (args.map (ev j.s)) ins outs L/\takes j L dst res=some r6/\K r6
 | .x dst op late,σ,K=>match wr σ dst op with
  |some (p,O)=>p/\oQ O late/\K O
  |none=>False
 | .q dst f args late,σ,K=>∃ F as res O,ev σ.s f= .d (.fn F [])/\SV.toDVs (args.map (ev σ.s))=some as/\bu P F (as.map .d) res (as.map .d)/\res.closed=true/\takes σ [] (some dst) res=some O/\oQ O late/\K O
 | .g t want dst o,σ,K=>match σ.s t with
  | .d (.bool b)=>(b=want->AO P o σ K)/\(b= !want->K (putS σ dst (.d (.tup []))))
  | .d (.tup [])=>K (putS σ dst (.d (.tup [])))
  |_=>False
def aD (P:Program) (K:St->Prop):List SO->St->Prop
 |[],σ=>K σ
 |o::z,σ=>AO P o σ (aD P K z)
def e6 (P:Program) (N:Nat) (o:Oper):SO->Bool
 | .r dst op=>o.dst==some dst&&decide (dst<N)&&ck P N o.op op
 | .o dst op=>o.dst==some dst&&decide (dst<N)&&ck P N o.op op
 | .c dst f args=>o.dst==some dst&&decide (dst<N)&&(match o.op with
  | .call {callee:= .value x,args:=as,argTypes:=_}=>aH N x f&&jp N as.toList args
  |_=>false)
 | .p dst f args=>o.dst==dst&&(match dst with|some d=>decide (d<N)|none=>true)&&(match o.op with
  | .call {callee:= .value x,args:=as,argTypes:=_}=>aH N x f&&jp N as.toList args
  |_=>false)
 | .w d op=>lA P N o.op o.dst d op
 | .x d op _=>lA P N o.op o.dst d op
 | .q d f args _=>o.dst==some d&&decide (d<N)&&(match o.op with
  | .call {callee:= .value x,args:=as,argTypes:=_}=>aH N x f&&jp N as.toList args
  |_=>false)
 | .g _ _ _ _=>false
def kr (P:Program) (N:Nat) (ops:Array Oper) (o:Oper):SO->Bool
 | .g t want dst so=>(match o.guard with
  |some (j,e)=>e==want&&(ops[j]?).bind (·.dst)==some t&&decide (t<N)
  |none=>false)&&o.dst==dst&&e6 P N o so
 |so=>o.guard==none&&e6 P N o so
def bo (P:Program) (N:Nat) (ops:Array Oper):List Oper->List SO->Bool
 |[],[]=>true
 |o::l,so::sos=>kr P N ops o so&&bo P N ops l sos
 |_,_=>false
section
variable {P:Program} {c:Cx} {σ:St} {κ:Nat->Value} {φ:Nat->List Nat} {a:Act} {w:World}
mutual
theorem Jv (h:Nat->Ch):∀ (x:SV) (d:DV),x.toDV=some d->SV.lend h x=some d
 | .d _,d,hd=>by simpa only[SV.toDV,SV.lend] using hd
 | .nils,d,hd=>by simpa only[SV.toDV,SV.lend] using hd
 | .lit _ _ _,d,hd=>by simpa only[SV.lend] using hd
 | .tup _,d,hd=>by simpa only[SV.lend] using hd
 | .agg cs,d,hd=>by
  simp only[SV.toDV] at hd
  split at hd
  ·rename_i xs T
   simp only[SV.lend,i7 h cs xs T]
   exact hd
  ·cases hd
 | .ref _ _,d,hd=>by simp[SV.toDV] at hd
 | .vec _,d,hd=>by simp[SV.toDV] at hd
 | .vref _ _ _ _,d,hd=>by simp[SV.toDV] at hd
 | .mp _,d,hd=>by simp[SV.toDV] at hd
 | .own _ _,d,hd=>by simp[SV.toDV] at hd
theorem i7 (h:Nat->Ch):∀ (cs:List SV) (J:List DV),SV.toDVs cs=some J->SV.lends h cs=some J
 |[],J,hd=>by simpa only[SV.toDVs,SV.lends] using hd
 |c::cs,J,hd=>by
  simp only[SV.toDVs] at hd
  split at hd
  ·rename_i x xs hx T
   simp only[SV.lends,Jv h c x hx,i7 h cs xs T]
   exact hd
  ·cases hd
end
theorem FC (D:cW c σ κ φ a w) {op:NB} (Z:lA P c.N o.op o.dst d op=true) {p:Prop} (G:wr σ d op=some (p,O)) (Y:p):jG P c o a w O:=by
 obtain⟨dst,w0,ty,pos,S,gd⟩:=o
 simp only at Z
 cases op with
 |boxM y=>
  simp only[lA,SR,S_] at Z
  obtain⟨⟨rfl,hd⟩,Z⟩:=Z
  split at Z
  ·simp only[wr] at G
   split at G
   ·rename_i cs hc
    simp only[SN,SU] at G
    obtain⟨_,rfl⟩:=G
    exact PP D Z hc ty pos S gd (by simpa using hd)
   ·cases G
  ·obtain⟨v,i,z,rfl,hi,hz,u8⟩:=Ad Z
   simp only[wr,ev] at G
   split at G
   ·rename_i cs hc
    simp only[SN,SU] at G
    obtain⟨_,rfl⟩:=G
    exact K6 D hi hz u8 hc ty pos S gd (by simpa using hd)
   ·cases G
  ·cases Z
 |st n x y=>
  simp only[lA,SR,S_] at Z
  obtain⟨rfl,Z⟩:=Z
  split at Z
  ·simp only[SR,S_] at Z
   obtain⟨⟨⟨h1,h2⟩,E⟩,h4⟩:=Z
   simp only[wr] at G
   split at G
   ·rename_i id off B
    split at G
    ·rename_i cs vs hh hv
     simp only[SN,SU] at G
     obtain⟨rfl,rfl⟩:=G
     exact Jm D h1 h2 E h4 B hh hv Y.1 Y.2 ty pos S gd
    ·cases G
   ·rename_i id sz i off B
    split at G
    ·rename_i e Q rows vs hh hv
     split at G
     ·rename_i r r3
      simp only[SN,SU] at G
      obtain⟨rfl,rfl⟩:=G
      obtain⟨rfl,v7,v8⟩:=Y
      exact Jn D h1 h2 E h4 B hh hv r3 v7 v8 ty pos S gd
     ·cases G
    ·cases G
   ·cases G
  ·cases Z
 |app e sz x y=>
  simp only[lA,SR,S_] at Z
  obtain⟨⟨rfl,hd⟩,Z⟩:=Z
  split at Z
  ·rename_i args ts
   split at Z
   ·rename_i x' y' t t' r4 L
    simp only[SR,S_] at Z
    obtain⟨⟨⟨h1,h2⟩,rfl⟩,E⟩:=Z
    split at E
    ·rename_i e' hu
     simp only[SR,S_] at E
     obtain⟨rfl,E⟩:=E
     split at E
     ·rename_i i hi
      simp only[SR,S_,S5] at E
      obtain⟨⟨⟨h4,h5⟩,h6⟩,h7⟩:=E
      split at h7
      ·rename_i z hz
       simp only[S_] at h7
       simp only[wr] at G
       have hx:=ak D h1
       split at G
       ·rename_i id f B r5
        rw[B] at hx
        simp only[ai] at hx
        split at G
        ·rename_i e2 v3 rows hh
         simp only[SN,SU] at G
         obtain⟨rfl,rfl⟩:=G
         obtain⟨rfl,rfl,W,J⟩:=Y
         have r0:=D.chunks id
         rw[hh] at r0
         simp only[jo] at r0
         exact yv D r4 L hu hi h4 h5 h6 hz h7 h2 r5 W J (by rw[hx];exact r0) ty pos S gd (by simpa using hd)
        ·cases G
       ·rename_i f B r5
        rw[B] at hx
        simp only[ai] at hx
        simp only[SN,SU] at G
        obtain⟨rfl,rfl⟩:=G
        obtain⟨W,J⟩:=Y
        have h8:cW c ⟨σ.s,am σ.h d .dead⟩ κ (am φ d []) a w:=D.drop d
        have:=yv (id:=d) (rows:=[]) h8 r4 L hu hi h4 h5 h6 hz h7 h2 r5 W (by simpa using J) (by rw[hx];exact⟨[],[],World.ownsRow_nil w 0 e' sz,by simp,by simp,by simp[ap],by rw[ar];rfl⟩) ty pos S gd (by simpa using hd) (d:=d)
        simp only[S8] at this
        have e3:cy ⟨σ.s,am σ.h d .dead⟩ d d e' sz f=cy σ d d e' sz f:=by
         unfold cy St.swap
         simp only[St.mk.injEq,true_and]
         funext j
         by_cases hj:j=d
         ·subst hj;rw[ar,ar]
         ·rw[aY _ _ _ _ hj,aY _ _ _ _ hj];simp only[bG,aY _ _ _ _ hj]
        rw[e3] at this
        exact this
       ·rename_i Q n cs f B r5
        simp only[SN,SU] at G
        obtain⟨rfl,rfl⟩:=G
        obtain⟨rfl,r8,W,J⟩:=Y
        exact G5 D r4 L hu hi h4 h6 hz h7 h1 B h2 r5 r8 W J ty pos S gd (by simpa using hd)
       ·cases G
      ·cases h7
     ·cases E
    ·cases E
   ·cases Z
  ·cases Z
 |appS e x y=>
  simp only[lA,SR,S_] at Z
  obtain⟨⟨rfl,hd⟩,Z⟩:=Z
  split at Z
  ·split at Z
   ·rename_i x' y' t t' r4 L
    simp only[SR] at Z
    obtain⟨⟨⟨h1,h2⟩,s⟩,E⟩:=Z
    split at s
    ·rename_i hs
     split at E
     ·rename_i e' hu
      simp only[SR,S_] at E
      obtain⟨rfl,E⟩:=E
      split at E
      ·rename_i i hi
       simp only[SR,S_] at E
       obtain⟨⟨h4,h5⟩,h6⟩:=E
       split at h6
       ·rename_i hz
        simp only[wr] at G
        have hx:=ak D h1
        have hy:=ak D h2
        split at G
        ·rename_i id l B g
         rw[B] at hx
         rw[g] at hy
         simp only[ai,aW] at hx hy
         split at G
         ·rename_i e2 v3 rows hh
          simp only[SN,SU] at G
          obtain⟨rfl,rfl⟩:=G
          obtain⟨rfl,rfl,J⟩:=Y
          have r0:=D.chunks id
          rw[hh] at r0
          simp only[jo] at r0
          exact H5 D r4 L hu hs hi h4 h5 hz hy J (by rw[hx];exact r0) ty pos S gd (by simpa using hd)
         ·cases G
        ·rename_i l B g
         rw[B] at hx
         rw[g] at hy
         simp only[ai,aW] at hx hy
         simp only[SN,SU] at G
         obtain⟨rfl,rfl⟩:=G
         have J:=Y
         have h8:cW c ⟨σ.s,am σ.h d .dead⟩ κ (am φ d []) a w:=D.drop d
         have:=H5 (id:=d) (rows:=[]) h8 r4 L hu hs hi h4 h5 hz hy (by simpa using J) (by rw[hx];exact⟨[],[],World.ownsRow_nil w 0 e' 1,by simp,by simp,by simp[ap],by rw[ar];rfl⟩) ty pos S gd (by simpa using hd) (d:=d)
         simp only[S8] at this
         have e3:cy ⟨σ.s,am σ.h d .dead⟩ d d e' 1 (l.map fun b=>[SV.d (.int .u8 b.toNat)])=cy σ d d e' 1 (l.map fun b=>[SV.d (.int .u8 b.toNat)]):=by
          unfold cy St.swap
          simp only[St.mk.injEq,true_and]
          funext j
          by_cases hj:j=d
          ·subst hj;rw[ar,ar]
          ·rw[aY _ _ _ _ hj,aY _ _ _ _ hj];simp only[bG,aY _ _ _ _ hj]
         rw[e3] at this
         exact this
        ·cases G
       ·cases h6
      ·cases E
     ·cases E
    ·cases s
   ·cases Z
  ·cases Z
 |mkmap kk=>
  simp only[lA,SR,S_] at Z
  obtain⟨⟨rfl,hd⟩,Z⟩:=Z
  split at Z
  ·simp only[wr,SN,SU] at G
   obtain⟨_,rfl⟩:=G
   exact K8 D kk ty pos S gd (by simpa using hd)
  ·cases Z
 |mset kk m k v=>
  simp only[lA,SR,S_] at Z
  obtain⟨rfl,Z⟩:=Z
  split at Z
  ·simp only[SR] at Z
   obtain⟨⟨⟨h1,h2⟩,E⟩,h4⟩:=Z
   split at h4
   ·rename_i kt e ht
    simp only[S_] at h4
    simp only[wr] at G
    split at G
    ·rename_i id x r7 r2
     split at G
     ·rename_i v2 kv hh
      simp only[SN,SU] at G
      obtain⟨rfl,rfl⟩:=G
      obtain⟨rfl,C⟩:=Y
      exact NC D h1 h2 E ht h4 r7 r2 hh C ty pos S gd
     ·cases G
    ·cases G
   ·cases h4
  ·cases Z
 |bldM T e=>
  simp only[lA,SR,S_] at Z
  obtain⟨⟨rfl,hd⟩,Z⟩:=Z
  split at Z
  ·rename_i t
   simp only[SR,S_] at Z
   obtain⟨rfl,Z⟩:=Z
   split at Z
   ·rename_i i hi
    split at Z
    ·rename_i z hz
     split at Z
     ·rename_i hc
      simp only[wr,SN,SU] at G
      obtain⟨_,rfl⟩:=G
      exact PN D hi hz hc ty pos S gd (by simpa using hd)
     ·cases Z
    ·cases Z
   ·cases Z
  ·cases Z
 |slM e sz xs=>
  simp only[lA,SR,S_] at Z
  obtain⟨⟨rfl,hd⟩,Z⟩:=Z
  split at Z
  ·simp only[SR,S_] at Z
   obtain⟨⟨h1,h2⟩,E⟩:=Z
   obtain⟨V,s1⟩:=ve D h2
   split at E
   ·rename_i e' he
    simp only[SR,S_] at E
    obtain⟨rfl,E⟩:=E
    split at E
    ·rename_i i hi
     simp only[SR,S_,S5] at E
     obtain⟨⟨⟨h4,h5⟩,h6⟩,h7⟩:=E
     split at h7
     ·rename_i z hz
      simp only[S_] at h7
      simp only[wr] at G
      split at G
      ·rename_i rows K
       simp only[SN,SU] at G
       obtain⟨_,rfl⟩:=G
       have:=PQ D he hi h4 h5 h6 hz h7 h1 V (fun j q hj=>by simpa using s1 j q hj) K ty pos S gd (by simpa using hd)
       simpa using this
      ·cases G
     ·cases h7
    ·cases E
   ·cases E
  ·cases Z
 |trunc sz y h=>
  simp only[lA,SR,S_] at Z
  obtain⟨⟨rfl,hd⟩,Z⟩:=Z
  split at Z
  ·simp only[SR] at Z
   obtain⟨⟨h1,h2⟩,E⟩:=Z
   split at E
   ·rename_i e he
    simp only[SR,S_,S5] at E
    obtain⟨⟨h4,h5⟩,h6⟩:=E
    simp only[wr] at G
    split at G
    ·rename_i id k n hx hn
     split at G
     ·rename_i e' Q rows hh
      simp only[SN,SU] at G
      obtain⟨rfl,rfl⟩:=G
      obtain⟨rfl,h0,s0⟩:=Y
      exact K7 D he h4 h5 h1 h2 hx hn hh h0 s0 ty pos S gd (by simpa using hd)
     ·cases G
    ·cases G
   ·cases E
  ·cases Z
theorem Lk {xs ins outs:List SV} {L:List (Nat×Ch)} (hh:HandL h xs ins outs L):outs.length=xs.length:=by
 induction hh<;>simp_all
theorem CZ {x:Operand} {f:FuncId} {args:Array Operand} {ts:Array TypeId} {caps:List Value} (hx:a.eval x= .func (.func f) #[] caps.toArray) (C:jW P f=true) (dst:Option Tmp) (ty:TypeId) (pos:String) (S:Array Edge) (gd:Option (Nat×Bool)):
  (execOp a.eval ⟨dst,.call {callee:= .value x,args,argTypes:=ts},ty,pos,S,gd⟩).run P w= .ok (.enter f (args.toList.map a.eval++caps).toArray) w:=by
 unfold jW at C
 cases l:P.funcs[f]? with
 |none=>simp[l] at C
 |some fn=>
  simp only[l,SR,bne_iff_ne,ne_eq] at C
  obtain⟨h1,h2⟩:=C
  have e:(args.map a.eval)++caps.toArray=(args.toList.map a.eval++caps).toArray:=by
   rw[<-T5];simp
  have E:(fn.name== "runtime.NumGoroutine")=false:=by simpa using h2
  have h4:fn.body.isNone=false:=by cases hb:fn.body<;>simp_all
  simp only[execOp,resolve,hx,Deferred.ofValue,Sem.run_bind,Sem.run_pure,Result.andThen_ok,invoke,callFunc,program,Sem.run,l,E,h4,Tb,Tq]
  simp[e]
def RL:SO->Bool
 | .q _ _ _ _=>true
 |_=>false
theorem FD {ops:Array Oper} (D:cW c σ κ φ a w) (hq:RL so=false) (Z:e6 P c.N o so=true) (h:AO P so σ K) (hn:∀ O N h7 a' w',cW c O N h7 a' w'->K O->next a' w'):o.wp P a w next Q:=by
 cases so with
 |q _ _ _ _=>simp[RL] at hq
 |r dst op=>
  simp only[e6,SR,S_,S5] at Z
  obtain⟨⟨h1,h2⟩,E⟩:=Z
  simp only[AO] at h
  split at h
  ·rename_i p v A
   obtain⟨u,w',H,hb,V⟩:=Fo D E A h.1
   unfold Oper.wp
   rw[H]
   simp only[Oper.upon,h1]
   exact hn _ _ _ _ _ (D.put h2 hb V) h.2
  ·exact h.elim
 |o dst op=>
  simp only[e6,SR,S_,S5] at Z
  obtain⟨⟨h1,h2⟩,E⟩:=Z
  simp only[AO] at h
  obtain⟨j,r3,p,v,A,Y,hK⟩:=h
  obtain⟨r7,h4,D⟩:=r3 _ _ _ _ _ D
  obtain⟨u,w',H,hb,V⟩:=Fo D E A Y
  unfold Oper.wp
  rw[H]
  simp only[Oper.upon,h1]
  exact hn _ _ _ _ _ (D.put h2 hb V) hK
 |c dst f args=>
  simp only[e6,SR,S_,S5] at Z
  obtain⟨⟨h1,h2⟩,E⟩:=Z
  simp only[AO] at h
  obtain⟨s5,w0,ty,pos,S,gd⟩:=o
  simp only at h1 E
  subst h1
  split at E
  ·rename_i x as ts
   simp only[SR] at E
   split at h
   ·rename_i F caps J B u5
    obtain⟨res,⟨h6,h5⟩,v1,hK⟩:=h
    have hx:=ak D E.1
    rw[B] at hx
    simp only[ai,aW] at hx
    obtain⟨s7,hx,h8⟩:=hx
    have r4:=xw D _ _ _ (iW D E.2) u5
    unfold Oper.wp
    rw[CZ (P:=P) (w:=w) (args:=as) hx h6]
    simp only[Oper.upon]
    rcases v1 with hd|C
    ·obtain⟨es,y⟩:=T0.1 hd
     have s1:=an.toDVs _ _ _ (iW D E.2) y
     have r5:es=J:=by
      have key:∀ (h:Nat->Ch) (cs:List SV) (es:List DV),SV.toDVs cs=some es->SV.lends h cs=some es:=i7
      have:=key σ.h _ _ y
      rw[u5] at this;simpa using this.symm
     subst r5
     refine(h5 w (own c φ) _ (fun b hb=>D.own_lt hb) (s1.append h8) D.good).mono ?_
     rintro e w' ⟨v,rfl,V,hb⟩
     simp only
     exact hn _ _ _ _ _ (D.put h2 hb (by simpa only[ai] using V)) hK
    ·refine(h5 w c.M0 _ (fun b hb=>TJ (D.m0 b hb).1 D.size) (r4.append (h8.ext (jE.shrink fun b hb=> .inl hb))) D.good).mono ?_
     rintro e w' ⟨v,rfl,V,hb⟩
     simp only
     exact hn _ _ _ _ _ (D.put h2 hb (by simp only[ai];exact V.flat _ _ C)) hK
   ·exact h.elim
  ·cases E
 |w d op=>
  simp only[e6] at Z
  simp only[AO] at h
  obtain⟨j,r3,p,O,G,Y,hK⟩:=h
  obtain⟨r7,h4,D⟩:=r3 _ _ _ _ _ D
  obtain⟨v,w',N,h7,H,U⟩:=FC D Z G Y
  unfold Oper.wp
  rw[H]
  rcases U with⟨u,rfl,R⟩|⟨rfl,R⟩
  ·simp only[Oper.upon];exact hn _ _ _ _ _ R hK
  ·simp only[Oper.upon];exact hn _ _ _ _ _ R hK
 |x d op late=>
  simp only[e6] at Z
  simp only[AO] at h
  split at h
  ·rename_i p O G
   obtain⟨v,w',N,h7,H,U⟩:=FC D Z G h.1
   unfold Oper.wp
   rw[H]
   rcases U with⟨u,rfl,R⟩|⟨rfl,R⟩
   ·simp only[Oper.upon];exact hn _ _ _ _ _ R h.2.2
   ·simp only[Oper.upon];exact hn _ _ _ _ _ R h.2.2
  ·exact h.elim
 |p dst f args=>
  simp only[e6,SR,S_] at Z
  obtain⟨⟨h1,h2⟩,E⟩:=Z
  simp only[AO] at h
  obtain⟨j,r3,F,caps,ins,outs,res,L,r6,B,⟨h6,h5⟩,r0,i,s,hK⟩:=h
  obtain⟨r7,h4,D⟩:=r3 _ _ _ _ _ D
  obtain⟨s5,w0,ty,pos,S,gd⟩:=o
  simp only at h1 E
  subst h1
  split at E
  ·rename_i x as ts
   simp only[SR] at E
   have hx:=ak D E.1
   rw[B] at hx
   simp only[ai,aW] at hx
   obtain⟨s7,hx,h8⟩:=hx
   have T:=iW D E.2
   unfold Oper.wp
   rw[CZ (P:=P) (w:=w) (args:=as) hx h6]
   simp only[Oper.upon]
   have s0:∀ b,((own c h4 b/\b∉hw h4 L)\/b∈hw h4 L)->own c h4 b:=fun b hb=>by
    rcases hb with hb|hb
    ·exact hb.1
    ·obtain⟨id,_,hi⟩:=b9.1 hb;exact .inr ⟨id,hi⟩
   have n:=(La D (M:=fun b=>(own c h4 b/\b∉hw h4 L)\/b∈hw h4 L) s0 i T).append (ap.of_S (κ:=κ0) _ _ (an.of_d (h8.ext (jE.shrink s0))))
   rw[Tg] at n
   refine(h5 w (fun b=>own c h4 b/\b∉hw h4 L) _ (hw h4 L) (fun b hb=>⟨D.own_lt hb.1,hb.2⟩) (fun b hb=>D.own_lt (s0 b (.inr hb))) (vg D i).1 n D.good (fun t ht hb=>by obtain⟨id,_,hi⟩:=b9.1 hb;exact D.free t ht hi)).mono ?_
   rintro e w' ⟨v,W,F2,rfl,s4,r8,z,r1,k⟩
   simp only
   obtain⟨G1,G2,rfl,v9,s8⟩:=s4.split
   have I:outs.length=(as.toList.map a.eval).length:=by
    have h1:=T.length
    have h2:outs.length=(args.map (ev j.s)).length:=Lk i
    omega
   rw[I,List.take_left] at v9
   have s2:∀ (l:List DV),SV.noOwns (l.map .d)=true:=fun l=>by induction l with|nil=>rfl|cons d l ih=>simp[SV.noOwns,SV.noOwn,ih]
   obtain⟨_,rfl⟩:=ap.to_S _ _ _ (s2 caps) s8
   rw[Tg] at v9 r8 z r1
   unfold takes at s
   cases s5 with
   |none=>
    simp only at s
    split at s
    ·rename_i h0
     simp only[SN] at s;subst s
     obtain⟨w8,R,_,_⟩:=D.called i T v9 z r1 k
     exact hn _ _ _ _ _ R hK
    ·cases s
   |some d=>
    simp only at s
    split at s
    ·rename_i h0
     simp only[SN] at s;subst s
     obtain⟨w8,R,X,_⟩:=D.called i T v9 z r1 k
     obtain⟨hs,_⟩:=aO.to_S _ _ _ (Av res h0).1 r8
     exact hn _ _ _ _ _ (R.putS (dst:=d) (by simpa using h2) ((hs.kappa _ _ r0).ext (jE.shrink X))) hK
    ·split at s
     ·rename_i h0 h1
      split at s
      ·rename_i m vv r9
       split at s
       ·rename_i ch mk s3
        simp only[SN] at s;subst s
        obtain⟨u,hO,s6⟩:=FB res v F2 m vv r0 h1 r9 r8
        obtain⟨h9,r2⟩:=At hO s3
        obtain⟨w8,R,X⟩:=D.called2 i T v9 z r1 k (dst:=d) (u:=u) (ch:=ch) h9 ((og hO.shape s3 (by rw[ar])).2 hO)
        exact hn _ _ _ _ _ (R.putS (dst:=d) (by simpa using h2) ((s6 _ _ (r2 _ d (by rw[ar]))).ext (jE.shrink X))) hK
       ·cases s
      ·cases s
     ·cases s
  ·cases E
 |g _ _ _ _=>simp[e6] at Z
theorem Aw {h:Nat->Ch}:∀ {xs:List SV} {J:List DV},SV.toDVs xs=some J->HandL h xs (J.map .d) (J.map .d) []
 |[],J,hd=>by simp only[SV.toDVs,SN] at hd;subst hd;exact .nil
 |x::xs,J,hd=>by
  unfold SV.toDVs at hd
  split at hd
  ·rename_i d i h1 h2
   simp only[SN] at hd;subst hd
   exact .data h1 (Aw h2)
  ·cases hd
theorem SL {f:SX} {args:List SX} {late:List (Nat×Nat×oX)} (h:AO P (.q d f args late) σ K):AO P (.p (some d) f args) σ K:=by
 simp only[AO] at h⊢
 obtain⟨F,as,res,O,h1,h2,E,h4,h5,_,h7⟩:=h
 exact⟨σ,bm.refl _,F,[],_,_,res,[],O,h1,by simpa using E,h4,Aw h2,h5,h7⟩
theorem Ib {ops:Array Oper} (D:cW c σ κ φ a w) (Z:e6 P c.N o so=true) (h:AO P so σ K) (hn:∀ O N h7 a' w',cW c O N h7 a' w'->K O->next a' w'):o.wp P a w next Q:=by
 cases hq:RL so with
 |false=>exact FD (ops:=ops) D hq Z h hn
 |true=>
  cases so<;>simp[RL] at hq
  rename_i d f args late
  exact FD (ops:=ops) (so:= .p (some d) f args) D rfl (by simpa only[e6] using Z) (SL h) hn
theorem Ax {N:Nat} (h:e6 P N o so=true) (hd:o.dst=some d):d<N:=by
 cases so with
 |r dst op=>simp only[e6,SR,S_,S5,hd,SN] at h;omega
 |o dst op=>simp only[e6,SR,S_,S5,hd,SN] at h;omega
 |c dst f args=>simp only[e6,SR,S_,S5,hd,SN] at h;omega
 |p dst f args=>
  simp only[e6,SR,S_,hd] at h
  obtain⟨⟨rfl,h2⟩,_⟩:=h
  simpa using h2
 |w e op=>cases op<;>simp[e6,lA,hd] at h<;>omega
 |x e op _=>cases op<;>simp[e6,lA,hd] at h<;>omega
 |q e f args _=>
  simp only[e6,SR,S_,S5,hd,SN] at h;omega
 |g _ _ _ _=>simp[e6] at h
theorem FE (D:cW c σ κ φ a w) {b:Bool} (hj:(ops[j]?).bind (·.dst)=some t) (ht:t<c.N) (hs:σ.s t= .d (.bool b)):yielded ops a.tmps j=some b:=by
 have:=D.slots t ht
 rw[hs] at this
 simp only[ai,aW] at this
 have X:t<a.tmps.size:=by rw[D.ntmps];exact ht
 have hg:a.tmps[t]?=some (.bool b):=by
  simp only[TH] at this
  rw[Uj X] at this⊢
  simpa using this
 unfold yielded
 simp[hj,hg]
theorem G_ (D:cW c σ κ φ a w) (hj:(ops[j]?).bind (·.dst)=some t) (ht:t<c.N) (hs:σ.s t= .d (.tup [])):yielded ops a.tmps j=none:=by
 have:=D.slots t ht
 rw[hs] at this
 simp only[ai,aW,aC] at this
 obtain⟨vs,this,rfl⟩:=this
 have X:t<a.tmps.size:=by rw[D.ntmps];exact ht
 have hg:a.tmps[t]?=some (.tuple #[]):=by
  simp only[TH] at this
  rw[Uj X] at this⊢
  simpa using this
 unfold yielded
 simp[hj,hg]
theorem wm (D:cW c σ κ φ a w) (Z:kr P c.N ops o so=true) (h:AO P so σ K) (hn:∀ O N h7 a' w',cW c O N h7 a' w'->K O->next a' w'):if Region.wanted o (yielded ops a.tmps) then o.wp P a w next Q\/(o.asks P a w/\LetsOut Q) else next (a.put o.dst undef) w:=by
 have plain:o.guard=none->e6 P c.N o so=true->if Region.wanted o (yielded ops a.tmps) then o.wp P a w next Q\/(o.asks P a w/\LetsOut Q) else next (a.put o.dst undef) w:=fun hg hu=>by
  have:Region.wanted o (yielded ops a.tmps)=true:=by simp[Region.wanted,hg]
  rw[this,U4 rfl]
  exact .inl (Ib (ops:=ops) D hu h hn)
 have split:∀ so,kr P c.N ops o so=true->(∀ t want dst H,so≠ .g t want dst H)->o.guard=none/\e6 P c.N o so=true:=fun so Z U=>by
  cases so with
  |g t want dst H=>exact absurd rfl (U t want dst H)
  |_=>simpa[kr] using Z
 cases so with
 |g t want dst H=>
  simp only[kr,SR,S_] at Z
  obtain⟨⟨h1,h2⟩,E⟩:=Z
  split at h1
  ·rename_i j e hg
   simp only[SR,S_,S5] at h1
   obtain⟨⟨rfl,h4⟩,h5⟩:=h1
   simp only[AO] at h
   split at h
   ·rename_i b hs
    have hy:=FE (ops:=ops) D h4 h5 hs
    by_cases hb:b=e
    ·have:Region.wanted o (yielded ops a.tmps)=true:=by simp[Region.wanted,hg,hy,hb]
     rw[this,U4 rfl]
     exact .inl (Ib (ops:=ops) D E (h.1 hb) hn)
    ·have:Region.wanted o (yielded ops a.tmps)=false:=by simp[Region.wanted,hg,hy,hb]
     rw[this]
     simp only[Tb,Tq]
     have hK:=h.2 (by cases b<;>cases e<;>simp_all)
     rw[h2]
     cases dst with
     |none=>exact hn _ _ _ _ _ D hK
     |some d=>exact hn _ _ _ _ _ (D.putS (Ax E h2) (by simp[ai,aW,aC,undef])) hK
   ·rename_i hs
    have hy:=G_ (ops:=ops) D h4 h5 hs
    have:Region.wanted o (yielded ops a.tmps)=false:=by simp[Region.wanted,hg,hy]
    rw[this]
    simp only[Tb,Tq]
    rw[h2]
    cases dst with
    |none=>exact hn _ _ _ _ _ D h
    |some d=>exact hn _ _ _ _ _ (D.putS (Ax E h2) (by simp[ai,aW,aC,undef])) h
   ·exact h.elim
  ·cases h1
 |r dst op=>obtain⟨h1,h2⟩:=split _ Z oS;exact plain h1 h2
 |c dst f args=>obtain⟨h1,h2⟩:=split _ Z oS;exact plain h1 h2
 |w d op=>obtain⟨h1,h2⟩:=split _ Z oS;exact plain h1 h2
 |o d op=>obtain⟨h1,h2⟩:=split _ Z oS;exact plain h1 h2
 |p d f args=>obtain⟨h1,h2⟩:=split _ Z oS;exact plain h1 h2
 |x d op late=>obtain⟨h1,h2⟩:=split _ Z oS;exact plain h1 h2
 |q d f args late=>obtain⟨h1,h2⟩:=split _ Z oS;exact plain h1 h2
theorem C0 {ops:Array Oper} {K:St->Prop} {Q:Exit->Act->World->Prop} (hQ:∀ O N h7 a' w',cW c O N h7 a' w'->K O->Q .normal a' w'):
  ∀ (sos:List SO) (l:List Oper) (k:Nat) (σ:St) (κ:Nat->Value) (φ:Nat->List Nat) (a:Act) (w:World),(∀ j o,l[j]?=some o->ops[k+j]?=some o)->bo P c.N ops l sos=true->cW c σ κ φ a w->aD P K sos σ->
  wpOps P ops Q (List.range' k l.length) a w
 |[],l,k,σ,κ,φ,a,w,hl,Z,D,h=>by
  cases l with
  |nil=>simp only[S3,List.range'_zero,wpOps];exact hQ _ _ _ _ _ D h
  |cons _ _=>simp[bo] at Z
 |so::sos,l,k,σ,κ,φ,a,w,hl,Z,D,h=>by
  cases l with
  |nil=>simp[bo] at Z
  |cons o l=>
   simp only[bo,SR] at Z
   simp only[ST,List.range'_succ,wpOps]
   have ho:ops[k]?=some o:=by simpa using hl 0 o oS
   simp only[ho]
   simp only[aD] at h
   exact wm D Z.1 h fun O N h7 a' w' h8 hk=>C0 hQ sos l (k+1) O N h7 a' w' (fun j o' hj=>by
    have:=hl (j+1) o' (by simpa using hj)
    rw[show k+1+j=k+(j+1) by omega];exact this) Z.2 h8 hk
theorem Eg {id:Nat} {sos:List SO} (hQ:∀ O N h7 a' w',cW c O N h7 a' w'->K O->Q .normal a' w') (Z:bo P c.N ops ops.toList sos=true) (D:cW c σ κ φ a w) (h:aD P K sos σ):
  (Code.region id ops false).wp P Q a w:=by
 refine wp_region ?_
 have:=C0 (P:=P) (ops:=ops) hQ sos ops.toList 0 σ κ φ a w (fun j o hj=>by simpa using hj) Z D h
 simpa[List.range_eq_range'] using this
end
end Go.Proofs.YtgmnipfafmphaaaGreatDoor

