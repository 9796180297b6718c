/-
  Laws on the way to the theorem.
-/
import Derived.Test.YtgmnipfafmphaaaGreatDoorBX12
import Derived.Test.YtgmnipfafmphaaaGreatDoorBX13
import Derived.Lib.ItoaLen
namespace Go.Proofs.YtgmnipfafmphaaaGreatDoor
open Go.RowKit
set_option linter.unusedSimpArgs false
set_option linter.unusedVariables false
abbrev Ms:=aL
abbrev Gp:=aU
abbrev Ix:=aJ
structure Sm (m:Ms):Prop where
 ref:m.fRef.length<=MX
 kind:m.fKind.length<=MX
 ver:m.fVersion.length<=MX
 len:m.fSegments.length<=1048576
 tags:xv m.fSegments
structure Sn (g:Gp):Prop where
 ref:g.fRef.length<=MX
 kind:g.fKind.length<=MX
 len:g.fMessages.length<=1048576
 msg:∀ m∈g.fMessages,Sm m
structure P9 (x:Ix):Prop where
 ref:x.fRef.length<=MX
 snd:x.fSender.length<=MX
 rcv:x.fReceiver.length<=MX
 len:x.fGroups.length<=1048576
 grp:∀ g∈x.fGroups,Sn g
theorem Oa (l:List Gp) (hl:l.length<=MX) (A:FuncId) (T:List DV) (d:Gp->Option Bool) (h1) (q:Gp->Bool) (hq:∀ a,d a=some (q a)):
  bp l A T d h1=some (l.any q):=by
 unfold MX at hl
 unfold bp f6;dsimp only
 unfold cR bJ;dsimp only
 generalize C:(fun s:Int=>_)=f
 have key:=sm (f:=f) (z:= .inl (l.length:Int)) (fun i:Nat=>(i:Int)) l.length (fun i=>match l[i]? with|some o=>if q o=true then some (.inr (i:Int)) else none|none=>none) (fun i hi L=>by
  subst C
  obtain⟨e,he⟩:=dl hi
  simp only[he] at L
  cases hb:q e with
  |true=>simp[hb] at L
  |false=>simp only[aX hi,Vo,am,he,Vh,hq,hb,Vn,aW i oM]) (fun i a hi L=>by
  subst C
  obtain⟨e,he⟩:=dl hi
  simp only[he] at L
  cases hb:q e with
  |false=>simp[hb] at L
  |true=>
   simp only[hb,VW,Vi] at L
   simp only[aX hi,Vo,am,he,Vh,hq,hb,<-L];rfl) (by
  subst C
  simp only[aB,Vn];rfl)
 rw[show((0:Nat):Int)=0 from rfl] at key
 rw[key]
 rcases o7 (fun i=>match l[i]? with|some o=>if q o=true then some (.inr (i:Int)) else none|none=>(none:Option (Int⊕Int))) l.length with⟨h1,h2⟩|⟨k,a,h1,h2,E,h4⟩
 ·rw[h1]
  have:l.any q=false:=by
   rw[List.any_eq_false]
   intro x hx
   obtain⟨i,hi,rfl⟩:=WS.1 hx
   have:=h2 i hi
   simp only[Vu hi] at this
   intro hb;simp[hb] at this
  rw[this];rfl
 ·rw[h4]
  obtain⟨e,he⟩:=dl h1
  simp only[he] at E
  cases hb:q e with
  |false=>simp[hb] at E
  |true=>
   simp only[hb,VW,Vi] at E
   have:l.any q=true:=Xr.2 ⟨e,Vq he,hb⟩
   rw[this,<-E]
   simp[bZ]
theorem Ob (l:List Ms) (hl:l.length<=MX) (A:FuncId) (T:List DV) (d:Ms->Option Bool) (h1) (q:Ms->Bool) (hq:∀ a,d a=some (q a)):
  bg l A T d h1=some (l.any q):=by
 unfold MX at hl
 unfold bg f6;dsimp only
 unfold cp bJ;dsimp only
 generalize C:(fun s:Int=>_)=f
 have key:=sm (f:=f) (z:= .inl (l.length:Int)) (fun i:Nat=>(i:Int)) l.length (fun i=>match l[i]? with|some o=>if q o=true then some (.inr (i:Int)) else none|none=>none) (fun i hi L=>by
  subst C
  obtain⟨e,he⟩:=dl hi
  simp only[he] at L
  cases hb:q e with
  |true=>simp[hb] at L
  |false=>simp only[aX hi,Vo,am,he,Vh,hq,hb,Vn,aW i oM]) (fun i a hi L=>by
  subst C
  obtain⟨e,he⟩:=dl hi
  simp only[he] at L
  cases hb:q e with
  |false=>simp[hb] at L
  |true=>
   simp only[hb,VW,Vi] at L
   simp only[aX hi,Vo,am,he,Vh,hq,hb,<-L];rfl) (by
  subst C
  simp only[aB,Vn];rfl)
 rw[show((0:Nat):Int)=0 from rfl] at key
 rw[key]
 rcases o7 (fun i=>match l[i]? with|some o=>if q o=true then some (.inr (i:Int)) else none|none=>(none:Option (Int⊕Int))) l.length with⟨h1,h2⟩|⟨k,a,h1,h2,E,h4⟩
 ·rw[h1]
  have:l.any q=false:=by
   rw[List.any_eq_false]
   intro x hx
   obtain⟨i,hi,rfl⟩:=WS.1 hx
   have:=h2 i hi
   simp only[Vu hi] at this
   intro hb;simp[hb] at this
  rw[this];rfl
 ·rw[h4]
  obtain⟨e,he⟩:=dl h1
  simp only[he] at E
  cases hb:q e with
  |false=>simp[hb] at E
  |true=>
   simp only[hb,VW,Vi] at E
   have:l.any q=true:=Xr.2 ⟨e,Vq he,hb⟩
   rw[this,<-E]
   simp[bZ]
theorem zC (l:List (List UInt8)) (t:List UInt8) (hl:l.length<=1048576):c5 l t=some (l.any fun e=>decide (t=e)):=by
 unfold c5 bJ;dsimp only
 unfold eY md;dsimp only
 generalize C:(fun s:Int=>_)=f
 have key:=sm (f:=f) (z:= .inl (l.length:Int)) (fun i:Nat=>(i:Int)) l.length (fun i=>match l[i]? with|some o=>if t=o then some (.inr (i:Int)) else none|none=>none) (fun i hi L=>by
  subst C
  obtain⟨e,he⟩:=dl hi
  simp only[he] at L
  have hb:¬ t=e:=fun h=>by simp[h] at L
  simp only[aX hi,Vo,am,he,Vh,hb,Xh,Vn,aW i oM]) (fun i a hi L=>by
  subst C
  obtain⟨e,he⟩:=dl hi
  simp only[he] at L
  by_cases hb:t=e
  ·simp only[hb,VW,Vi] at L
   simp only[aX hi,Vo,am,he,Vh,hb,VS,<-L];rfl
  ·simp[hb] at L) (by
  subst C
  simp only[aB,Vn];rfl)
 rw[show((0:Nat):Int)=0 from rfl] at key
 rw[key]
 rcases o7 (fun i=>match l[i]? with|some o=>if t=o then some (.inr (i:Int)) else none|none=>(none:Option (Int⊕Int))) l.length with⟨h1,h2⟩|⟨k,a,h1,h2,E,h4⟩
 ·rw[h1]
  have:(l.any fun e=>decide (t=e))=false:=by
   rw[List.any_eq_false]
   intro x hx
   obtain⟨i,hi,rfl⟩:=WS.1 hx
   have:=h2 i hi
   simp only[Vu hi] at this
   intro hb
   have h6:=Xy hb
   rw[Wy h6] at this;cases this
  rw[this];rfl
 ·rw[h4]
  obtain⟨e,he⟩:=dl h1
  simp only[he] at E
  by_cases hb:t=e
  ·simp only[hb,VW,Vi] at E
   have:(l.any fun e=>decide (t=e))=true:=Xr.2 ⟨e,Vq he,VX hb⟩
   rw[this,<-E]
   simp[bZ]
  ·simp[hb] at E
def D6:List (List UInt8):=[[73,72,68],[71,72,68],[77,72,68]]
def D7:List (List UInt8):=[[73,84,82],[71,84,82],[77,84,82]]
def B7 (t:List UInt8):Bool:=(D6.any fun e=>decide (t=e))||(D7.any fun e=>decide (t=e))
theorem So (t:List UInt8):c5 [[73,72,68],[71,72,68],[77,72,68]] t=some (D6.any fun e=>decide (t=e)):=zC _ t oD
theorem Sp (t:List UInt8):c5 [[73,84,82],[71,84,82],[77,84,82]] t=some (D7.any fun e=>decide (t=e)):=zC _ t oD
theorem TC (t:List UInt8):dD t=some (B7 t):=by
 unfold dD ld;dsimp only
 unfold gn cc;dsimp only
 unfold B7 D6 D7
 simp only[List.any_cons,List.any_nil,Bool.or_false]
 by_cases h1:t=[73,72,68]
 ·subst h1;rfl
 ·by_cases h2:t=[71,72,68]
  ·subst h2;rfl
  ·by_cases E:t=[77,72,68]
   ·subst E;rfl
   ·by_cases h4:t=[73,84,82]
    ·subst h4;rfl
    ·by_cases h5:t=[71,84,82]
     ·subst h5;rfl
     ·by_cases h6:t=[77,84,82]
      ·subst h6;rfl
      ·simp[h1,h2,E,h4,h5,h6]
def UK (a b c:Bool) (O:Int) (e:Bool):Int:=bif !a then 3 else bif b then 5 else bif c then 7 else bif !decide (O=0) then O else bif e then 4 else 0
def Sq (m:Ms) (a:Bool):Int:=UK (eV m.fRef) (!dP m.fKind|| !dP m.fVersion) a (fJ m.fSegments) (m.fSegments.any fun s=>B7 s.fTag)
theorem P_:oZ=some [[73,72,68],[71,72,68],[77,72,68]]:=by unfold oZ bj;dsimp only
theorem Qa:o0=some [[73,84,82],[71,84,82],[77,84,82]]:=by unfold o0 bj;dsimp only
theorem KM (l:List aa):(if kF (xe l (fun s=>B7 s.fTag) 4) 0 l.length=0 then some 0 else some (kF (xe l (fun s=>B7 s.fTag) 4) 0 l.length))=some (bif l.any fun s=>B7 s.fTag then(4:Int) else 0):=by
 rw[Et l _ 4 oD l.length (Vs _),WF]
 cases l.any fun s=>B7 s.fTag<;>rfl
theorem TD (m:Ms) (h:Sm m) (l:List Ms) (hl:l.length<=MX):mP m l=some (Sq m (l.any fun o=>decide (o.fRef=m.fRef))):=by
 have I:=h.len
 have h1:∀ a,lH a m=some (decide (a.fRef=m.fRef)):=fun a=>by unfold lH bJ;dsimp only
 unfold mP js;dsimp only
 simp only[bx,Vh,uj _ h.ref,tz _ h.kind,tz _ h.ver,Ob l hl _ _ _ _ _ h1,JT _ h.tags]
 unfold Sq UK
 cases eV m.fRef with
 |false=>rfl
 |true=>
 cases(!dP m.fKind|| !dP m.fVersion) with
 |true=>rfl
 |false=>
 cases(l.any fun o=>decide (o.fRef=m.fRef)) with
 |true=>rfl
 |false=>
 cases hz:decide (fJ m.fSegments=0) with
 |false=>rfl
 |true=>
 simp only[Vt,Vn,P_,Qa,Vh,So,Sp,bx]
 refine(uX (fun i:Nat=>(i:Int)) (n:=m.fSegments.length) (g:=xe m.fSegments (fun s=>B7 s.fTag) 4) (fun i hi=> ?_) (by simp only[aB,Vn];rfl) _).trans (KM _)
 obtain⟨e,he⟩:=dl hi
 simp only[aX hi,Vo,am,he,Vh,aW i oM,xe]
 change (bif B7 e.fTag then _ else _)=_
 by_cases hb:B7 e.fTag=true<;>simp[hb,gr]
theorem TE (l:List Ms) (i:Nat) {m:Ms} (Z:l[i]?=some m) (h:Sm m) (hl:l.length<=MX):gy l i=some (Sq m ((l.take i).any fun o=>decide (o.fRef=m.fRef))):=by
 have I:=h.len
 have N:=b9 Z
 have f:=hl
 unfold MX at f
 unfold gy bJ;dsimp only
 simp only[am,Z,bx,Vh,pc _ h.ref,tA _ h.kind,tA _ h.ver,Ou _ h.tags]
 unfold Sq UK
 cases eV m.fRef with
 |false=>rfl
 |true=>
 cases(!dP m.fKind|| !dP m.fVersion) with
 |true=>rfl
 |false=>
 simp only[Vt,Vn]
 rw[FY l i oM hl (fun o=>decide (o.fRef=m.fRef)) _ (fun k o hk ho=>by
  simp only[aX hk,Vo,am,ho,Vh,aW k oM]
  cases decide (o.fRef=m.fRef)<;>rfl) (by simp only[aB,Vn];rfl)]
 cases((l.take i).any fun o=>decide (o.fRef=m.fRef)) with
 |true=>rfl
 |false=>
 cases hz:decide (fJ m.fSegments=0) with
 |false=>rfl
 |true=>
 simp only[Vt,Vn,TC,Vh]
 refine(uX (fun i:Nat=>(i:Int)) (n:=m.fSegments.length) (g:=xe m.fSegments (fun s=>B7 s.fTag) 4) (fun i hi=> ?_) (by simp only[aB,Vn];rfl) _).trans (KM _)
 obtain⟨e,he⟩:=dl hi
 simp only[aX hi,Vo,am,he,Vh,aW i oM,xe]
 by_cases hb:B7 e.fTag=true<;>simp[hb,gr]
def Oc (l:List Ms) (i:Nat):Int:=match l[i]? with
 |some m=>Sq m ((l.take i).any fun o=>decide (o.fRef=m.fRef))
 |none=>0
def UL (a b c:Bool) (fm:Int):Int:=bif !a then 3 else bif !b then 5 else bif c then 7 else fm
def Sr (g:Gp) (a:Bool):Int:=UL (eV g.fRef) (dP g.fKind) a (kF (Oc g.fMessages) 0 g.fMessages.length)
theorem KN (a:Int):(if a=0 then some 0 else some a)=some a:=by split<;>simp_all
theorem FR {α:Type} (l:List α) {i:Nat} (h:i<=l.length):b5 l ((none:Option Int).getD 0) ((some (i:Int)).getD (l.length:Int))=some (l.take i):=n5 l i h
theorem TF (g:Gp) (h:Sn g) (l:List Gp) (hl:l.length<=MX):oY g l=some (Sr g (l.any fun o=>decide (o.fRef=g.fRef))):=by
 have I:=h.len
 have h1:∀ a,mN a g=some (decide (a.fRef=g.fRef)):=fun a=>by unfold mN bJ;dsimp only
 unfold oY n0;dsimp only
 simp only[Vh,uj _ h.ref,tz _ h.kind,Oa l hl _ _ _ _ _ h1]
 unfold Sr UL
 cases eV g.fRef with
 |false=>rfl
 |true=>
 cases dP g.fKind with
 |false=>rfl
 |true=>
 cases(l.any fun o=>decide (o.fRef=g.fRef)) with
 |true=>rfl
 |false=>
 simp only[Vt,Vn]
 refine(uX (fun i:Nat=>(i:Int)) (n:=g.fMessages.length) (g:=Oc g.fMessages) (fun i hi=> ?_) (by simp only[aB,Vn];rfl) _).trans (KN _)
 obtain⟨e,he⟩:=dl hi
 have hs:=h.msg e (Vq he)
 simp only[aX hi,Vo,am,he,Vh,FR g.fMessages (Nat.le_of_lt hi),TD e hs _ (show(g.fMessages.take i).length<=MX by rw[VA];unfold MX;omega),aW i oM,Oc]
 generalize Sq e _=a
 by_cases ha:a=0<;>simp[ha,gr]
theorem TG (l:List Gp) (i:Nat) {g:Gp} (L:l[i]?=some g) (h:Sn g) (hl:l.length<=MX):hf l i=some (Sr g ((l.take i).any fun o=>decide (o.fRef=g.fRef))):=by
 have I:=h.len
 have N:=b9 L
 have f:=hl
 unfold MX at f
 unfold hf f6;dsimp only
 simp only[am,L,Vh,pc _ h.ref,tA _ h.kind]
 unfold Sr UL
 cases eV g.fRef with
 |false=>rfl
 |true=>
 cases dP g.fKind with
 |false=>rfl
 |true=>
 simp only[Vt,Vn]
 rw[FY l i oM hl (fun o=>decide (o.fRef=g.fRef)) _ (fun k o hk ho=>by
  simp only[aX hk,Vo,am,ho,Vh,aW k oM]
  cases decide (o.fRef=g.fRef)<;>rfl) (by simp only[aB,Vn];rfl)]
 cases((l.take i).any fun o=>decide (o.fRef=g.fRef)) with
 |true=>rfl
 |false=>
 simp only[Vn]
 refine(uX (fun i:Nat=>(i:Int)) (n:=g.fMessages.length) (g:=Oc g.fMessages) (fun i hi=> ?_) (by simp only[aB,Vn];rfl) _).trans (KN _)
 obtain⟨e,he⟩:=dl hi
 have hs:=h.msg e (Vq he)
 simp only[aX hi,Vo,TE g.fMessages i he hs (show g.fMessages.length<=MX by unfold MX;omega),Vh,aW i oM,Oc,he]
 generalize Sq e _=a
 by_cases ha:a=0<;>simp[ha,gr]
def JQ (l:List Gp) (i:Nat):Int:=match l[i]? with
 |some g=>Sr g ((l.take i).any fun o=>decide (o.fRef=g.fRef))
 |none=>0
def LV (l:List Ms) (n:Int):Int:=l.foldl (fun n m=>IntKind.i64.wrap (n+IntKind.i64.wrap (2+(m.fSegments.length:Int)))) n
def wW (l:List Gp):Int×Int:=l.foldl (fun s g=>(IntKind.i64.wrap (s.1+(g.fMessages.length:Int)),LV g.fMessages (IntKind.i64.wrap (s.2+2)))) (0,2)
def UM (a b c d:Bool) (f:Int) (e:Bool):Int:=bif !a then 3 else bif b then 5 else bif c then 1 else bif d then 2 else if f=0 then(bif e then 2 else 0) else f
def Qb (x:Ix):Int:=UM (eV x.fRef) (!dP x.fSender|| !dP x.fReceiver) (nv x.fDay 1 3652059||nv x.fSecond 0 86399) (decide (50<x.fGroups.length)) (kF (JQ x.fGroups) 0 x.fGroups.length)
 (decide (200<(wW x.fGroups).1)||decide (2000<(wW x.fGroups).2))
theorem Iy (l:List Ms) (hl:l.length<=1048576) (n:Int) {R:Type} {f:Int×Int->Option ((Int×Int)⊕((Int×Int)⊕R))} (K:Int×Int->Option R) (C:∀ (i:Nat) e (a:Int),l[i]?=some e->f (a,(i:Int))=some (.inl (IntKind.i64.wrap (a+IntKind.i64.wrap (2+(e.fSegments.length:Int))),((i+1:Nat):Int)))) (he:∀ a,f (a,(l.length:Int))=some (.inr (.inl (a,(l.length:Int))))):
  (bn f (n,0)).bind (bZ K)=K (LV l n,(l.length:Int)):=by
 refine dO (a:= .inl (LV l n,(l.length:Int))) (sn l (fun i q=>(LV q n,(i:Int))) (fun i e h=> ?_) (he _)) rfl
 rw[C i e _ h]
 unfold LV
 rw[List.foldl_append];rfl
theorem Od (x:Ix) (h:P9 x):tn x=some (wW x.fGroups):=by
 have I:=h.len
 unfold tn bJ;dsimp only
 refine dO (a:= .inl ((wW x.fGroups).1,(wW x.fGroups).2,(x.fGroups.length:Int))) (sn x.fGroups (fun i q=>((wW q).1,(wW q).2,(i:Int))) (fun i e he=> ?_) (by simp only[aB,Vn];rfl)) rfl
 have hi:=b9 he
 have L:=(h.grp e (Vq he)).len
 simp only[aX hi,Vo,am,he,Vh]
 refine(Iy e.fMessages L _ _ (fun k m a Z=> ?_) (fun a=>by simp only[aB,Vn];rfl)).trans ?_
 ·have hk:=b9 Z
  simp only[aX hk,Vo,am,Z,Vh,aW k oM]
 ·simp only[aW i oM]
  unfold wW
  rw[List.foldl_append];rfl
theorem UN (x:Ix) (h:P9 x):kr x=some (Qb x):=by
 have I:=h.len
 have b:qN x.fDay=some (!nv x.fDay 1 3652059):=by unfold qN fr;dsimp only;simp only[Er,Option.bind_some]
 unfold kr n1;dsimp only
 rw[show decide ((50:Int)<(x.fGroups.length:Int))=decide (50<x.fGroups.length) from K3 x.fGroups.length 50]
 simp only[Vh,bx,uj _ h.ref,tz _ h.snd,tz _ h.rcv,b,Er,Bool.not_not,Od x h]
 unfold Qb UM
 cases eV x.fRef with
 |false=>rfl
 |true=>
 cases(!dP x.fSender|| !dP x.fReceiver) with
 |true=>rfl
 |false=>
 cases(nv x.fDay 1 3652059||nv x.fSecond 0 86399) with
 |true=>rfl
 |false=>
 cases decide (50<x.fGroups.length) with
 |true=>rfl
 |false=>
 simp only[Vt,Vn]
 refine(uX (fun i:Nat=>(i:Int)) (n:=x.fGroups.length) (g:=JQ x.fGroups) (fun i hi=> ?_) (by simp only[aB,Vn];rfl) _).trans ?_
 ·obtain⟨e,he⟩:=dl hi
  have hs:=h.grp e (Vq he)
  simp only[aX hi,Vo,am,he,Vh,FR x.fGroups (Nat.le_of_lt hi),TF e hs _ (show(x.fGroups.take i).length<=MX by rw[VA];unfold MX;omega),aW i oM,JQ]
  generalize Sr e _=a
  by_cases ha:a=0<;>simp[ha,gr]
 ·by_cases hq:kF (JQ x.fGroups) 0 x.fGroups.length=0
  ·rw[Wy hq,Wy hq]
   cases decide (200<(wW x.fGroups).1)<;>cases decide (2000<(wW x.fGroups).2)<;>rfl
  ·rw[WU hq,WU hq]
theorem UO (x:Ix) (h:P9 x):fh x=some (Qb x):=by
 have I:=h.len
 unfold fh js;dsimp only
 rw[show decide ((50:Int)<(x.fGroups.length:Int))=decide (50<x.fGroups.length) from K3 x.fGroups.length 50]
 simp only[Vh,bx,pc _ h.ref,tA _ h.snd,tA _ h.rcv]
 have D:(decide (x.fDay<1)||decide (3652059<x.fDay)||decide (x.fSecond<0)||decide (86399<x.fSecond))=(nv x.fDay 1 3652059||nv x.fSecond 0 86399):=by unfold nv;simp only[Bool.or_assoc]
 rw[D]
 unfold Qb UM
 cases eV x.fRef with
 |false=>rfl
 |true=>
 cases(!dP x.fSender|| !dP x.fReceiver) with
 |true=>rfl
 |false=>
 cases(nv x.fDay 1 3652059||nv x.fSecond 0 86399) with
 |true=>rfl
 |false=>
 cases decide (50<x.fGroups.length) with
 |true=>rfl
 |false=>
 simp only[Vt,Vn]
 refine(uX (fun i:Nat=>((wW (x.fGroups.take i)).1,(wW (x.fGroups.take i)).2,(i:Int))) (n:=x.fGroups.length) (g:=JQ x.fGroups) (fun i hi=> ?_) (by simp only[aB,Vn];rfl) _).trans ?_
 ·obtain⟨e,he⟩:=dl hi
  have hs:=h.grp e (Vq he)
  have L:=hs.len
  simp only[aX hi,Vo,TG x.fGroups i he hs (show x.fGroups.length<=MX by unfold MX;omega),am,he,Vh,JQ]
  generalize Sr e _=a
  by_cases ha:a=0
  ·simp only[ha,VS,Vt,Vn,VW]
   refine(Iy e.fMessages L _ _ (fun k m a Z=> ?_) (fun a=>by simp only[aB,Vn];rfl)).trans ?_
   ·have hk:=b9 Z
    simp only[aX hk,Vo,am,Z,Vh,aW k oM]
   ·have hc:wW (x.fGroups.take (i+1))=(IntKind.i64.wrap ((wW (x.fGroups.take i)).1+(e.fMessages.length:Int)),LV e.fMessages (IntKind.i64.wrap ((wW (x.fGroups.take i)).2+2))):=JS he
    simp only[hc,aW i oM]
  ·simp[ha,gr]
 ·by_cases hq:kF (JQ x.fGroups) 0 x.fGroups.length=0
  ·rw[Wy hq,Wy hq]
   simp only[WF]
   cases decide (200<(wW x.fGroups).1)<;>cases decide (2000<(wW x.fGroups).2)<;>rfl
  ·rw[WU hq,WU hq]
def Oe (l:List aa):Prop:=l.length<=137438953472/\∀ s∈l,s_ s
variable {P:List UInt8->Prop} {a b:List UInt8}
abbrev S8 (tag:List UInt8) (ts:List (List UInt8)):aa:=⟨tag,ts.map Vb⟩
def Q4 (m:Ms):List aa:=S8 [77,72,68] [m.fRef,m.fKind,m.fVersion]::(m.fSegments++[S8 [77,84,82] [Lib.itoa ((m.fSegments.length:Int)+2),m.fRef]])
def OX (g:Gp):List aa:=S8 [71,72,68] [g.fRef,g.fKind]::(g.fMessages.flatMap Q4++[S8 [71,84,82] [Lib.itoa (g.fMessages.length:Int),g.fRef]])
def uT (x:Ix):List aa:=
 S8 [73,72,68] [x.fRef,x.fSender,x.fReceiver,Lib.itoa x.fDay,Lib.itoa x.fSecond,bif x.fTest then[49] else[]]::(x.fGroups.flatMap OX++[S8 [73,84,82] [Lib.itoa (x.fGroups.length:Int),x.fRef]])
theorem D4 (m:Ms):(Q4 m).length=m.fSegments.length+2:=by unfold Q4;simp
theorem D5 (g:Gp):(OX g).length=(g.fMessages.flatMap Q4).length+2:=by unfold OX;simp only[Vk,Vl,Vp]
theorem yH (x:Ix):(uT x).length=(x.fGroups.flatMap OX).length+2:=by unfold uT;simp only[Vk,Vl,Vp]
structure Vf (x:Ix):Prop where
 day:i64 x.fDay
 sec:i64 x.fSecond
 len:(uT x).length<=1048576
theorem N9 {g:Gp}:g.fMessages.length<=(g.fMessages.flatMap Q4).length:=by
 induction g.fMessages with
 |nil=>simp
 |cons m l ih=>simp only[WB,Vl,Vk,D4];omega
theorem N_ {x:Ix}:x.fGroups.length<=(x.fGroups.flatMap OX).length:=by
 induction x.fGroups with
 |nil=>simp
 |cons m l ih=>simp only[WB,Vl,Vk,D5];omega
set_option maxHeartbeats 1000000 in
theorem U4 {c:List UInt8} (ha:P a) (hb:P b) (hc:P c):∀ t∈[a,b,c],P t:=by
 intro t ht;simp at ht;rcases ht with rfl|rfl|rfl<;>assumption
theorem two (ha:P a) (hb:P b):∀ t∈[a,b],P t:=by
 intro t ht;simp at ht;rcases ht with rfl|rfl<;>assumption
def Uu (m:Ms):MT:=⟨m.fRef,m.fKind,m.fVersion,m.fSegments⟩
def x8 (g:Gp):GT:=⟨g.fRef,g.fKind,g.fMessages.map Uu⟩
theorem zU {α β b:Type} (f:α->β) (g:β->List b):∀ l:List α,(l.map f).flatMap g=l.flatMap fun a=>g (f a)
 |[]=>rfl
 |a::l=>by simp only[VF,WB,zU f g l]
theorem Td (g:Gp):OX g=vj (x8 g):=by
 unfold OX vj x8
 simp only[zU,Wj]
 rfl
theorem QH (x:Ix):uT x=pn i2 [x.fRef,x.fSender,x.fReceiver,Lib.itoa x.fDay,Lib.itoa x.fSecond,bif x.fTest then[49] else[]]::((x.fGroups.map x8).flatMap vj++[pn BG [Lib.itoa ((x.fGroups.map x8).length:Int),x.fRef]]):=by
 unfold uT
 simp only[zU,Wj,<-Td]
 rfl
def Mu (m:MT):Ms:=⟨m.ref,m.kind,m.ver,m.segs⟩
def Ew (g:GT):Gp:=⟨g.ref,g.kind,g.msgs.map Mu⟩
noncomputable def Q_ (r snd rcv d sec t:List UInt8) (gs:List GT):Ix:=⟨r,snd,rcv,i1 d,i1 sec,decide (t=[49]),gs.map Ew⟩
theorem Tb (g:GT):x8 (Ew g)=g:=by
 obtain⟨r,k,ms⟩:=g
 unfold x8 Ew
 simp only[WZ]
 congr 1
 conv=>rhs;rw[<-XN ms]
 exact Wc fun m _=>rfl
theorem Ra (gs:List GT):(gs.map Ew).map x8=gs:=by
 rw[WZ]
 conv=>rhs;rw[<-XN gs]
 exact Wc fun g _=>Tb g
theorem Rb {r snd rcv d sec t:List UInt8} {gs:List GT} (hd:dJ d=true) (hs:dJ sec=true) (ht:t=[]\/t=[49]):
  uT (Q_ r snd rcv d sec t gs)=pn i2 [r,snd,rcv,d,sec,t]::(gs.flatMap vj++[pn BG [Lib.itoa (gs.length:Int),r]]):=by
 rw[QH]
 simp only[Q_,Ra,Cs hd,Cs hs]
 rcases ht with rfl|rfl<;>rfl
structure Rc (x:Ix):Prop where
 ref:eV x.fRef=true
 snd:dP x.fSender=true
 rcv:dP x.fReceiver=true
 day:1<=x.fDay/\x.fDay<=3652059
 sec:0<=x.fSecond/\x.fSecond<=86399
 grp:∀ g∈x.fGroups,eV g.fRef=true/\dP g.fKind=true/\∀ m∈g.fMessages,eV m.fRef=true/\dP m.fKind=true/\dP m.fVersion=true/\∀ s∈m.fSegments,dK s.fTag=0
theorem Mv {l:List aa} (h:ya l=[]) (U:l≠[]) (hi:∀ s∈l.drop 1,s.fTag≠i2):∃ x,l=uT x/\Rc x:=by
 obtain⟨r,snd,rcv,d,sec,t,gs,e,h1,h2,E,h4,h5,h6,h7⟩:=K8 h U hi
 simp only[E1,E2,Vj,Vv] at h4 h5
 refine⟨Q_ r snd rcv d sec t gs,by rw[e,Rb h4.1.1 h5.1 h6],h1,h2,E,⟨h4.1.2,h4.2⟩,⟨A2 h5.1,h5.2⟩, ?_⟩
 intro g L
 obtain⟨q,hq,rfl⟩:=VT.1 L
 obtain⟨a1,a2,a3⟩:=h7 q hq
 refine⟨a1,a2,fun m Z=> ?_⟩
 obtain⟨k,hk,rfl⟩:=VT.1 Z
 exact a3 k hk
variable {i:Nat} {r:List aa}
def kK (x:Ix) (gs:List Gp):Ix:=⟨x.fRef,x.fSender,x.fReceiver,x.fDay,x.fSecond,x.fTest,gs⟩
structure Ut {β:Type} (l:List aa) (Φ:Ix->Nat->β):Prop where
 hI:∀ (i:Nat) (r snd rcv d sec t:List UInt8) (x:Ix),l[i]?=some (pn i2 [r,snd,rcv,d,sec,t])->dJ d=true->dJ sec=true->Φ x i=Φ ⟨r,snd,rcv,i1 d,i1 sec,decide (t=[49]),[]⟩ (i+1)
 hG:∀ (i:Nat) (r k:List UInt8) (x:Ix),l[i]?=some (pn pB [r,k])->x.fGroups.length<=i->Φ x i=Φ (kK x (x.fGroups++[⟨r,k,[]⟩])) (i+1)
 hM:∀ (i:Nat) (r k v:List UInt8) (x:Ix) (gs:List Gp) (g:Gp),l[i]?=some (pn oh [r,k,v])->gs.length<=i->g.fMessages.length<=i->Φ (kK x (gs++[g])) i=Φ (kK x (gs++[⟨g.fRef,g.fKind,g.fMessages++[⟨r,k,v,[]⟩]⟩])) (i+1)
 hT:∀ (i:Nat) (s:aa) (x:Ix),l[i]?=some s->(s.fTag=BG\/s.fTag=Ex\/s.fTag=Ey)->Φ x i=Φ x (i+1)
 hS:∀ (i:Nat) (s:aa) (x:Ix) (gs:List Gp) (g:Gp) (ms:List Ms) (m:Ms),l[i]?=some s->dK s.fTag=0->gs.length<=i->ms.length<=i->m.fSegments.length<=i->
  Φ (kK x (gs++[⟨g.fRef,g.fKind,ms++[m]⟩])) i=Φ (kK x (gs++[⟨g.fRef,g.fKind,ms++[⟨m.fRef,m.fKind,m.fVersion,m.fSegments++[s]⟩]⟩])) (i+1)
theorem ul {α:Type} {l:List α} {s:α} {r:List α} (h:l.drop i=s::r):l[i]?=some s/\l.drop (i+1)=r:=by
 refine⟨?_, ?_⟩
 ·rw[<-List.head?_drop,h];rfl
 ·rw[<-List.tail_drop,h];rfl
theorem Tc (x:Ix):(x.fGroups.map x8).map Ew=x.fGroups:=by
 rw[WZ]
 conv=>rhs;rw[<-XN x.fGroups]
 refine Wc fun g _=> ?_
 obtain⟨r,k,ms⟩:=g
 simp only[Function.comp,x8,Ew,WZ,id]
 congr 1
 conv=>rhs;rw[<-XN ms]
 exact Wc fun m _=>rfl
section
variable {β:Type} {l:List aa} {Φ:Ix->Nat->β} (H:Ut l Φ)
include H
theorem Hl (x:Ix) (gs:List Gp) (g:Gp) (ms:List Ms):∀ (segs:List aa) (m:Ms) (i:Nat) (r:List aa),l.drop i=segs++r->(∀ s∈segs,dK s.fTag=0)->gs.length<=i->ms.length<=i->m.fSegments.length<=i->
  Φ (kK x (gs++[⟨g.fRef,g.fKind,ms++[m]⟩])) i=Φ (kK x (gs++[⟨g.fRef,g.fKind,ms++[⟨m.fRef,m.fKind,m.fVersion,m.fSegments++segs⟩]⟩])) (i+segs.length)
 |[],m,i,r,_,_,_,_,_=>by simp
 |s::segs,m,i,r,h,ht,h1,h2,E=>by
  obtain⟨a,b⟩:=ul h
  rw[H.hS i s x gs g ms m a (ht s oS) h1 h2 E]
  have:=Hl x gs g ms segs ⟨m.fRef,m.fKind,m.fVersion,m.fSegments++[s]⟩ (i+1) r b (fun s hs=>ht s (Wx _ hs)) oM oM oT
  rw[this]
  simp only[Vy,VG,VC,Vk]
  rw[show i+1+segs.length=i+(segs.length+1) by omega]
theorem O4 (x:Ix) (gs:List Gp) (g:Gp) (m:MT) (he:∀ s∈m.segs,dK s.fTag=0) (h:l.drop i=xf m++r) (h1:gs.length<=i) (h2:g.fMessages.length<=i):
  Φ (kK x (gs++[g])) i=Φ (kK x (gs++[⟨g.fRef,g.fKind,g.fMessages++[Mu m]⟩])) (i+(xf m).length):=by
 have h:l.drop i=pn oh [m.ref,m.kind,m.ver]::(m.segs++(pn Ey [Lib.itoa ((m.segs.length:Int)+2),m.ref]::r)):=by rw[h];simp[xf]
 obtain⟨a,b⟩:=ul h
 rw[H.hM i _ _ _ x gs g a h1 h2]
 have E:=Hl H x gs g g.fMessages m.segs ⟨m.ref,m.kind,m.ver,[]⟩ (i+1) _ b he oM oM oS
 rw[E]
 have hc:l.drop (i+1+m.segs.length)=pn Ey [Lib.itoa ((m.segs.length:Int)+2),m.ref]::r:=by rw[<-Wr,b,Xm]
 obtain⟨c,_⟩:=ul hc
 rw[H.hT _ _ _ c (.inr (.inr rfl))]
 have:i+(xf m).length=i+1+m.segs.length+1:=by simp[xf];omega
 rw[this]
 simp only[VC,Mu]
theorem Hm (x:Ix) (gs:List Gp):∀ (ms:List MT) (g:Gp) (i:Nat) (r:List aa),(∀ m∈ms,∀ s∈m.segs,dK s.fTag=0)->l.drop i=ms.flatMap xf++r->gs.length<=i->g.fMessages.length<=i->
  Φ (kK x (gs++[g])) i=Φ (kK x (gs++[⟨g.fRef,g.fKind,g.fMessages++ms.map Mu⟩])) (i+(ms.flatMap xf).length)
 |[],g,i,r,_,_,_,_=>by simp
 |m::ms,g,i,r,he,h,h1,h2=>by
  have h:l.drop i=xf m++(ms.flatMap xf++r):=by rw[h];simp
  rw[O4 H x gs g m (he m oS) h h1 h2]
  have hl:2<=(xf m).length:=by simp[xf]
  have hc:l.drop (i+(xf m).length)=ms.flatMap xf++r:=by rw[<-Wr,h,Xm]
  rw[Hm x gs ms ⟨g.fRef,g.fKind,g.fMessages++[Mu m]⟩ (i+(xf m).length) r (fun m Z=>he m (Wx _ Z)) hc oM oT]
  simp only[Vy,VG,VC,VF,WB,Vl]
  rw[show i+(xf m).length+(ms.flatMap xf).length=i+((xf m).length+(ms.flatMap xf).length) by omega]
theorem O5 (x:Ix) (gs:List Gp) (g:GT) (he:∀ m∈g.msgs,∀ s∈m.segs,dK s.fTag=0) (h:l.drop i=vj g++r) (h1:gs.length<=i):
  Φ (kK x gs) i=Φ (kK x (gs++[Ew g])) (i+(vj g).length):=by
 have h:l.drop i=pn pB [g.ref,g.kind]::(g.msgs.flatMap xf++(pn Ex [Lib.itoa (g.msgs.length:Int),g.ref]::r)):=by rw[h];simp[vj]
 obtain⟨a,b⟩:=ul h
 rw[H.hG i _ _ (kK x gs) a h1]
 have E:=Hm H x gs g.msgs ⟨g.ref,g.kind,[]⟩ (i+1) _ he b oM oS
 have e:kK (kK x gs) ((kK x gs).fGroups++[⟨g.ref,g.kind,[]⟩])=kK x (gs++[⟨g.ref,g.kind,[]⟩]):=rfl
 rw[e,E]
 have hc:l.drop (i+1+(g.msgs.flatMap xf).length)=pn Ex [Lib.itoa (g.msgs.length:Int),g.ref]::r:=by rw[<-Wr,b,Xm]
 obtain⟨c,_⟩:=ul hc
 rw[H.hT _ _ _ c (.inr (.inl rfl))]
 have:i+(vj g).length=i+1+(g.msgs.flatMap xf).length+1:=by simp only[vj,Vk,Vl,Vp];omega
 rw[this]
 simp only[VC,Ew]
theorem Hn (x:Ix):∀ (a:List GT) (gs:List Gp) (i:Nat) (r:List aa),(∀ g∈a,∀ m∈g.msgs,∀ s∈m.segs,dK s.fTag=0)->l.drop i=a.flatMap vj++r->gs.length<=i->
  Φ (kK x gs) i=Φ (kK x (gs++a.map Ew)) (i+(a.flatMap vj).length)
 |[],gs,i,r,_,_,_=>by simp
 |g::a,gs,i,r,he,h,h1=>by
  have h:l.drop i=vj g++(a.flatMap vj++r):=by rw[h];simp
  rw[O5 H x gs g (he g oS) h h1]
  have hl:2<=(vj g).length:=by simp[vj]
  have hc:l.drop (i+(vj g).length)=a.flatMap vj++r:=by rw[<-Wr,h,Xm]
  rw[Hn x a (gs++[Ew g]) (i+(vj g).length) r (fun g L=>he g (Wx _ L)) hc oT]
  simp only[Vy,VG,VC,VF,WB,Vl]
  rw[show i+(vj g).length+(a.flatMap vj).length=i+((vj g).length+(a.flatMap vj).length) by omega]
theorem Ka {x y:Ix} (hl:l=uT x) (hd:dJ (Lib.itoa x.fDay)=true/\i1 (Lib.itoa x.fDay)=x.fDay) (hs:dJ (Lib.itoa x.fSecond)=true/\i1 (Lib.itoa x.fSecond)=x.fSecond) (he:∀ g∈x.fGroups,∀ m∈g.fMessages,∀ s∈m.fSegments,dK s.fTag=0):Φ y 0=Φ x l.length:=by
 rw[QH] at hl
 have h:l.drop 0=pn i2 [x.fRef,x.fSender,x.fReceiver,Lib.itoa x.fDay,Lib.itoa x.fSecond,bif x.fTest then[49] else[]]::((x.fGroups.map x8).flatMap vj++[pn BG [Lib.itoa ((x.fGroups.map x8).length:Int),x.fRef]]):=by rw[XA];exact hl
 obtain⟨a,b⟩:=ul h
 rw[H.hI 0 _ _ _ _ _ _ y a hd.1 hs.1,hd.2,hs.2]
 have ht:decide ((bif x.fTest then[49] else[]:List UInt8)=[49])=x.fTest:=by cases x.fTest<;>rfl
 rw[ht]
 have E:=Hn H x (x.fGroups.map x8) [] 1 _ (fun g L m Z s hs=>by
  obtain⟨r,i,rfl⟩:=VT.1 L
  obtain⟨m',r6,rfl⟩:=VT.1 Z
  exact he r i m' r6 s hs) b oS
 have e:(⟨x.fRef,x.fSender,x.fReceiver,x.fDay,x.fSecond,x.fTest,[]⟩:Ix)=kK x []:=rfl
 rw[e,E]
 have hc:l.drop (1+((x.fGroups.map x8).flatMap vj).length)=[pn BG [Lib.itoa ((x.fGroups.map x8).length:Int),x.fRef]]:=by rw[<-Wr,b,Xm]
 obtain⟨c,_⟩:=ul hc
 rw[H.hT _ _ _ c (.inl rfl),VC,Tc]
 have e1:kK x x.fGroups=x:=rfl
 have e2:1+((x.fGroups.map x8).flatMap vj).length+1=l.length:=by rw[hl];simp only[Vk,Vl,Vp];omega
 rw[e1,e2]
end
set_option maxHeartbeats 1000000
variable {A R S:Type} {l:List aa} {s:aa} {tag:List UInt8} {ts:List (List UInt8)} {x:Ix} {k:A->Option R} {r:Option R}
theorem lB {f:S->Option (S⊕A)} {s s':S} (h:f s=some (.inl s')):bn f s=bn f s':=by rw[bS,h]
theorem II {x:S->Option (S⊕A)} {s0:S} (h:∀ f:S->Option (S⊕A),(∀ s,f s=x s)->(bn f s0).bind k=r):(bn x s0).bind k=r:=h x fun _=>rfl
theorem KW {a b:Option A} (h:a=b) (hk:b.bind k=r):a.bind k=r:=by rw[h];exact hk
theorem uh {α:Type} (l:List α) (a b:α) (h:l.length<9223372036854775807):(l++[a]).set (IntKind.i64.wrap (((l++[a]).length:Int) - 1)).toNat b=l++[b]:=by
 rw[(jf l a h).2,We _ _ (Vs _),Wn]
 rfl
theorem zO {l:List UInt8} (h:dJ l=true):eU l=some (i1 l):=by
 unfold dJ at h
 simp only[Vj,Wb,VJ] at h
 exact F1 h.1.1.1 oM h.1.2
def IW (x:Ix) (i:Nat):List UInt8×List UInt8×List UInt8×Int×Int×Bool×List Gp×List UInt8×List UInt8×List UInt8×Int×Int×Bool×List Gp×Int:=
 ([],[],[],0,0,false,[],x.fRef,x.fSender,x.fReceiver,x.fDay,x.fSecond,x.fTest,x.fGroups,(i:Int))
theorem TR (h:vw s.fElements):∃ z,mq s=some z:=⟨_,yR s.fTag h⟩
theorem TS (h:vw s.fElements):∃ z,dM s=some z:=⟨_,Cc s.fTag h⟩
theorem SN (h:vw (pn tag ts).fElements):mq (pn tag ts)=some (ts,true):=by
 rw[show pn tag ts=⟨(pn tag ts).fTag,(pn tag ts).fElements⟩ from rfl,yR _ h]
 unfold Rd
 rw[Wy (Kc tag ts),Kd]
theorem SQ (h:vw (pn tag ts).fElements):dM (pn tag ts)=some (ts,true):=by
 rw[show pn tag ts=⟨(pn tag ts).fTag,(pn tag ts).fElements⟩ from rfl,Cc _ h,Kc,Kd]
theorem TT {t:List UInt8} (h:dK t=0):decide (t=[73,72,68])=false/\decide (t=[71,72,68])=false/\decide (t=[77,72,68])=false/\decide (t=[73,84,82])=false/\decide (t=[71,84,82])=false/\decide (t=[77,84,82])=false:=by
 simp only[VJ]
 refine⟨?_, ?_, ?_, ?_, ?_, ?_⟩<;>(rintro rfl;revert h;decide)
theorem UV (hl:l=uT x) (hA:MI l) (hd:dJ (Lib.itoa x.fDay)=true/\i1 (Lib.itoa x.fDay)=x.fDay) (hs:dJ (Lib.itoa x.fSecond)=true/\i1 (Lib.itoa x.fSecond)=x.fSecond) (he:∀ g∈x.fGroups,∀ m∈g.fMessages,∀ s∈m.fSegments,dK s.fTag=0):jy l=some x:=by
 have hn:=hA.1
 unfold jy wJ;dsimp only
 refine II fun f C=> ?_
 refine KW (b:=bn f (IW x l.length)) (Ka (l:=l) (Φ:=fun x i=>bn f (IW x i)) ⟨?_, ?_, ?_, ?_, ?_⟩ (y:=⟨[],[],[],0,0,false,[]⟩) hl hd hs he) ?_
 ·intro i r snd rcv d sec t y hi o V
  have N:=b9 hi
  refine lB ?_
  rw[C];delta IW;dsimp only
  have H:decide ((pn i2 [r,snd,rcv,d,sec,t]).fTag=[73,72,68])=true:=rfl
  have g0:aV [r,snd,rcv,d,sec,t] 0=some r:=rfl
  have g1:aV [r,snd,rcv,d,sec,t] 1=some snd:=rfl
  have g2:aV [r,snd,rcv,d,sec,t] 2=some rcv:=rfl
  have g3:aV [r,snd,rcv,d,sec,t] 3=some d:=rfl
  have g4:aV [r,snd,rcv,d,sec,t] 4=some sec:=rfl
  have g5:aV [r,snd,rcv,d,sec,t] 5=some t:=rfl
  rw[aX N,Vo,am,hi]
  rw[Vh,SN (hA.2 _ (Vq hi)),Vh]
  try rw[Vh]
  rw[H,Vo]
  simp only[Vh,g0,g1,g2,g3,g4,g5,zO o,zO V,aW i oM]
 ·intro i r k y hi L
  have N:=b9 hi
  refine lB ?_
  rw[C];delta IW;dsimp only
  have H:decide ((pn pB [r,k]).fTag=[73,72,68])=false:=rfl
  have d2:decide ((pn pB [r,k]).fTag=[71,72,68])=true:=rfl
  have g0:aV [r,k] 0=some r:=rfl
  have g1:aV [r,k] 1=some k:=rfl
  rw[aX N,Vo,am,hi]
  rw[Vh,SN (hA.2 _ (Vq hi)),Vh]
  try rw[Vh]
  rw[H,Vn,d2,Vo]
  simp only[Vh,g0,g1,aW i oM]
  rw[bU (by simp only[Vk,Vp];omega)]
  rfl
 ·intro i r k v y gs g hi L Z
  have N:=b9 hi
  refine lB ?_
  rw[C];delta IW kK;dsimp only
  have H:decide ((pn oh [r,k,v]).fTag=[73,72,68])=false:=rfl
  have d2:decide ((pn oh [r,k,v]).fTag=[71,72,68])=false:=rfl
  have q:decide ((pn oh [r,k,v]).fTag=[77,72,68])=true:=rfl
  have g0:aV [r,k,v] 0=some r:=rfl
  have g1:aV [r,k,v] 1=some k:=rfl
  have g2:aV [r,k,v] 2=some v:=rfl
  rw[aX N,Vo,am,hi]
  rw[Vh,SN (hA.2 _ (Vq hi)),Vh]
  try rw[Vh]
  rw[H,Vn,d2,Vn,q,Vo]
  simp only[Vh,g0,g1,g2,aW i oM,(jf gs g oM).1,uh gs g _ oM]
  rw[bU (by simp only[Vk,Vp];omega)]
 ·intro i s y hi ht
  have N:=b9 hi
  refine lB ?_
  rw[C];delta IW;dsimp only
  obtain⟨z,hz⟩:=TR (hA.2 _ (Vq hi))
  rw[aX N,Vo,am,hi]
  rw[Vh,hz,Vh]
  try rw[Vh]
  have H:decide (s.fTag=[73,72,68])=false:=by rcases ht with ht|ht|ht<;>(rw[ht];rfl)
  have d2:decide (s.fTag=[71,72,68])=false:=by rcases ht with ht|ht|ht<;>(rw[ht];rfl)
  have q:decide (s.fTag=[77,72,68])=false:=by rcases ht with ht|ht|ht<;>(rw[ht];rfl)
  rw[H,Vn,d2,Vn,q,Vn]
  rcases ht with ht|ht|ht
  ·have a:decide (s.fTag=[73,84,82])=true:=by rw[ht];rfl
   rw[a,Vo,aW i oM]
   try simp only[Vo]
  ·have a:decide (s.fTag=[73,84,82])=false:=by rw[ht];rfl
   have c:decide (s.fTag=[71,84,82])=true:=by rw[ht];rfl
   rw[a,Vn,c,Vo,aW i oM]
   try simp only[Vo]
  ·have a:decide (s.fTag=[73,84,82])=false:=by rw[ht];rfl
   have c:decide (s.fTag=[71,84,82])=false:=by rw[ht];rfl
   have e:decide (s.fTag=[77,84,82])=true:=by rw[ht];rfl
   rw[a,Vn,c,Vn,e,Vo,aW i oM]
   try simp only[Vo]
 ·intro i s y gs g ms m hi ht L j p
  have N:=b9 hi
  refine lB ?_
  rw[C];delta IW kK;dsimp only
  obtain⟨z,hz⟩:=TR (hA.2 _ (Vq hi))
  obtain⟨H,d2,q,a,c,e⟩:=TT ht
  rw[aX N,Vo,am,hi]
  rw[Vh,hz,Vh]
  try rw[Vh]
  rw[H,Vn,d2,Vn,q,Vn,a,Vn,c,Vn,e,Vn]
  simp only[Vh,aW i oM,(jf gs _ oM).1,uh gs _ _ oM,(jf ms m oM).1,uh ms m _ oM]
  rw[bU (by simp only[Vk,Vp];omega)]
 ·rw[bS,C]
  delta IW
  simp only[aB,Vn]
  rfl
theorem UW (hl:l=uT x) (hA:MI l) (hd:dJ (Lib.itoa x.fDay)=true/\i1 (Lib.itoa x.fDay)=x.fDay) (hs:dJ (Lib.itoa x.fSecond)=true/\i1 (Lib.itoa x.fSecond)=x.fSecond) (he:∀ g∈x.fGroups,∀ m∈g.fMessages,∀ s∈m.fSegments,dK s.fTag=0):gZ l=some x:=by
 have hn:=hA.1
 unfold gZ wK;dsimp only
 refine II fun f C=> ?_
 refine KW (b:=bn f (IW x l.length)) (Ka (l:=l) (Φ:=fun x i=>bn f (IW x i)) ⟨?_, ?_, ?_, ?_, ?_⟩ (y:=⟨[],[],[],0,0,false,[]⟩) hl hd hs he) ?_
 ·intro i r snd rcv d sec t y hi o V
  have N:=b9 hi
  refine lB ?_
  rw[C];delta IW;dsimp only
  have H:decide ((pn i2 [r,snd,rcv,d,sec,t]).fTag=[73,72,68])=true:=rfl
  have g0:aV [r,snd,rcv,d,sec,t] 0=some r:=rfl
  have g1:aV [r,snd,rcv,d,sec,t] 1=some snd:=rfl
  have g2:aV [r,snd,rcv,d,sec,t] 2=some rcv:=rfl
  have g3:aV [r,snd,rcv,d,sec,t] 3=some d:=rfl
  have g4:aV [r,snd,rcv,d,sec,t] 4=some sec:=rfl
  have g5:aV [r,snd,rcv,d,sec,t] 5=some t:=rfl
  rw[aX N,Vo,am,hi]
  rw[Vh,SQ (hA.2 _ (Vq hi)),Vh]
  try rw[Vh]
  rw[H,Vo]
  simp only[Vh,g0,g1,g2,g3,g4,g5,zO o,zO V,aW i oM]
 ·intro i r k y hi L
  have N:=b9 hi
  refine lB ?_
  rw[C];delta IW;dsimp only
  have H:decide ((pn pB [r,k]).fTag=[73,72,68])=false:=rfl
  have d2:decide ((pn pB [r,k]).fTag=[71,72,68])=true:=rfl
  have g0:aV [r,k] 0=some r:=rfl
  have g1:aV [r,k] 1=some k:=rfl
  rw[aX N,Vo,am,hi]
  rw[Vh,SQ (hA.2 _ (Vq hi)),Vh]
  try rw[Vh]
  rw[H,Vn,d2,Vo]
  simp only[Vh,g0,g1,aW i oM]
  rw[bU (by simp only[Vk,Vp];omega)]
  rfl
 ·intro i r k v y gs g hi L Z
  have N:=b9 hi
  refine lB ?_
  rw[C];delta IW kK;dsimp only
  have H:decide ((pn oh [r,k,v]).fTag=[73,72,68])=false:=rfl
  have d2:decide ((pn oh [r,k,v]).fTag=[71,72,68])=false:=rfl
  have q:decide ((pn oh [r,k,v]).fTag=[77,72,68])=true:=rfl
  have g0:aV [r,k,v] 0=some r:=rfl
  have g1:aV [r,k,v] 1=some k:=rfl
  have g2:aV [r,k,v] 2=some v:=rfl
  rw[aX N,Vo,am,hi]
  rw[Vh,SQ (hA.2 _ (Vq hi)),Vh]
  try rw[Vh]
  rw[H,Vn,d2,Vn,q,Vo]
  simp only[Vh,g0,g1,g2,aW i oM,(jf gs g oM).1,uh gs g _ oM]
  rw[bU (by simp only[Vk,Vp];omega)]
 ·intro i s y hi ht
  have N:=b9 hi
  refine lB ?_
  rw[C];delta IW;dsimp only
  obtain⟨z,hz⟩:=TS (hA.2 _ (Vq hi))
  rw[aX N,Vo,am,hi]
  rw[Vh,hz,Vh]
  try rw[Vh]
  have H:decide (s.fTag=[73,72,68])=false:=by rcases ht with ht|ht|ht<;>(rw[ht];rfl)
  have d2:decide (s.fTag=[71,72,68])=false:=by rcases ht with ht|ht|ht<;>(rw[ht];rfl)
  have q:decide (s.fTag=[77,72,68])=false:=by rcases ht with ht|ht|ht<;>(rw[ht];rfl)
  rw[H,Vn,d2,Vn,q,Vn]
  rcases ht with ht|ht|ht
  ·have a:decide (s.fTag=[73,84,82])=true:=by rw[ht];rfl
   rw[a,Vo,aW i oM]
   try simp only[Vo]
  ·have a:decide (s.fTag=[73,84,82])=false:=by rw[ht];rfl
   have c:decide (s.fTag=[71,84,82])=true:=by rw[ht];rfl
   rw[a,Vn,c,Vo,aW i oM]
   try simp only[Vo]
  ·have a:decide (s.fTag=[73,84,82])=false:=by rw[ht];rfl
   have c:decide (s.fTag=[71,84,82])=false:=by rw[ht];rfl
   have e:decide (s.fTag=[77,84,82])=true:=by rw[ht];rfl
   rw[a,Vn,c,Vn,e,Vo,aW i oM]
   try simp only[Vo]
 ·intro i s y gs g ms m hi ht L j p
  have N:=b9 hi
  refine lB ?_
  rw[C];delta IW kK;dsimp only
  obtain⟨z,hz⟩:=TS (hA.2 _ (Vq hi))
  obtain⟨H,d2,q,a,c,e⟩:=TT ht
  rw[aX N,Vo,am,hi]
  rw[Vh,hz,Vh]
  try rw[Vh]
  rw[H,Vn,d2,Vn,q,Vn,a,Vn,c,Vn,e,Vn]
  simp only[Vh,aW i oM,(jf gs _ oM).1,uh gs _ _ oM,(jf ms m oM).1,uh ms m _ oM]
  rw[bU (by simp only[Vk,Vp];omega)]
 ·rw[bS,C]
  delta IW
  simp only[aB,Vn]
  rfl
theorem E3 {tag:List UInt8}:(gE tag=true->∃ lv,lv<=2/\dK tag - 1=lv/\tag=yV lv)/\(gE tag=false->0<dK tag->∃ lv,lv<=2/\dK tag - 1=lv/\tag=rb lv):=by
 refine⟨fun h=> ?_,fun h g=> ?_⟩
 ·unfold gE at h
  simp only[V8,Vv] at h
  rcases h with(rfl|rfl)|rfl
  ·exact⟨0,by omega,rfl,rfl⟩
  ·exact⟨1,by omega,rfl,rfl⟩
  ·exact⟨2,by omega,rfl,rfl⟩
 ·unfold gE at h
  simp only[W_,VJ] at h
  unfold dK at g
  by_cases h1:tag=BG
  ·subst h1;exact⟨0,by omega,rfl,rfl⟩
  by_cases h2:tag=Ex
  ·subst h2;exact⟨1,by omega,rfl,rfl⟩
  by_cases E:tag=Ey
  ·subst E;exact⟨2,by omega,rfl,rfl⟩
  rw[WU (by rintro(h|h)<;>simp_all),WU (by rintro(h|h)<;>simp_all),WU (by rintro(h|h)<;>simp_all)] at g
  omega
theorem Pg {x:Nt} {out:List Nt} {k:Nat} (hs:nr tE out) (h1:∀ y∈out.take k,tE x y=false) (h2:∀ y∈out.drop k,tE x y=true):nr tE (out.take k++[x]++out.drop k)/\SP tE (out++[x]) (out.take k++[x]++out.drop k):=by
 have d:nr tE (out.take k++out.drop k):=by rwa[VH]
 have s:=lf.1 d
 refine⟨?_, ?_⟩
 ·rw[Vy]
  refine lf.2 ⟨s.1,W0.2 ⟨fun y hy=>I2.asym _ _ (h2 y hy),s.2.1⟩,fun a ha b hb=> ?_⟩
  rcases VK.1 hb with rfl|hb
  ·exact h1 a ha
  ·exact s.2.2 a ha b hb
 ·have:out++[x]=out.take k++(out.drop k++[x]):=by rw[<-Vy,VH]
  rw[this,Vy]
  exact(SP.refl tE _).app (SP.swap I2 (fun u hu v hv=>by rw[V1.1 hv];exact h2 u hu))
theorem Cd (l:List aa) (h:MI l):∃ W,kC l=some W/\nr tE W/\SP tE (ya l) W:=by
 unfold kC wI;dsimp only
 have hB:∀ i,i<=l.length->x_ i (hJ (l.take i) 0 ⟨[],[]⟩):=fun i hi=>by
  have:=F6 (l.take i) 0 _ U3
  rwa[VA,VD,WV hi] at this
 have I:=h.1
 refine nn (X:=Nat) (C:=fun W=>nr tE W/\SP tE (ya l) W) (fun i=>((hJ (l.take i) 0 ⟨[],[]⟩).flevels,(hJ (l.take i) 0 ⟨[],[]⟩).fnotes,(i:Int))) (fun i=>l.length - i) (fun i=>i<=l.length) ?_ 0 (V0 _)
 intro i hi
 have hb:=hB i hi
 rcases VR i l.length with h1|h1
 ·refine .inl ⟨i+1,h1,by omega, ?_⟩
  obtain⟨s,hs⟩:=dl h1
  have hE:=h.2 s (Vq hs)
  have w:IntKind.i64.wrap ((i:Int)+1)=((i+1:Nat):Int):=aW i oM
  have D:hJ (l.take (i+1)) 0 ⟨[],[]⟩=fK s (i:Int) (hJ (l.take i) 0 ⟨[],[]⟩):=by
   rw[je hs,zW,VA,VD,WV hi]
  rw[D]
  generalize hJ (l.take i) 0 ⟨[],[]⟩=a at hb
  obtain⟨b1,b2,b3⟩:=id hb
  simp only[aX h1,Vo,am,hs,Vh,MD,Rj,w]
  unfold fK
  cases ht:gE s.fTag with
  |true=>
   obtain⟨lv,e1,e2,e3⟩:=E3.1 ht
   simp only[Vo,VW,e2]
   rw[show(⟨a.flevels,a.fnotes⟩:RA)=a from rfl,Pd a s lv i oM hb e1 e3 hE]
   rfl
  |false=>
   simp only[Vn,Vw,VQ]
   by_cases h0:0<dK s.fTag
   ·obtain⟨lv,e1,e2,e3⟩:=E3.2 ht h0
    rw[Wy h0,VX h0,e2,show(⟨a.flevels,a.fnotes⟩:RA)=a from rfl,Rk a s lv i oM hb e1 e3 hE]
    rfl
   ·rw[WU h0,VY h0]
    simp only[Vn]
    by_cases E:a.flevels.length<3
    ·have d:decide ((a.flevels.length:Int)<3)=true:=VX oM
     rw[Wy E,d,show(⟨a.flevels,a.fnotes⟩:RA)=a from rfl,vx a 7 (i:Int) oM]
     rfl
    ·have d:decide ((a.flevels.length:Int)<3)=false:=VY oM
     obtain⟨x,hx⟩:∃ x,a.flevels[2]?=some x:=dl oM
     have g:aV a.flevels 2=some x:=by rw[show(2:Int)=((2:Nat):Int) from rfl,am];exact hx
     have Z:=b3 x (Vq hx)
     have w2:IntKind.i64.wrap (x.fmany+1)=x.fmany+1:=bk _ oM oM
     rw[WU E,d]
     simp only[Vn,g,Vh,w2,CE,hx]
 ·have:i=l.length:=by omega
  subst this
  rw[WF] at hb⊢
  refine .inr ⟨.inl ((hJ l 0 ⟨[],[]⟩).flevels,(hJ l 0 ⟨[],[]⟩).fnotes,((l.length:Nat):Int)), ?_⟩
  obtain⟨b1,b2,b3⟩:=hb
  have A:=F5 (hJ l 0 ⟨[],[]⟩) 0 ((l.length:Nat):Int) oM b1
  have hN:(ya l).length<=10 * l.length+3:=by simp only[ya,a8,Vl,VE];omega
  simp only[aB,Vn]
  simp only[bZ]
  rw[show(⟨(hJ l 0 ⟨[],[]⟩).flevels,(hJ l 0 ⟨[],[]⟩).fnotes⟩:RA)=hJ l 0 ⟨[],[]⟩ from rfl,show(0:Int)=((0:Nat):Int) from rfl,A]
  simp only[Vh]
  have R:(a8 0 ((l.length:Nat):Int) (hJ l 0 ⟨[],[]⟩)).flevels=[]:=by simp[a8]
  rw[R,show(a8 0 ((l.length:Nat):Int) (hJ l 0 ⟨[],[]⟩)).fnotes=ya l from rfl]
  generalize ya l=N at hN
  obtain⟨W,hW,w1,w2⟩:=nn (X:=Nat×List Nt) (k:=bZ fun s:List RO×List Nt×List Nt×Int=>some s.2.2.1) (C:=fun W=>nr tE W/\SP tE N W)
   (f:=fun s=>bif decide (s.2.2.2<(s.2.1.length:Int)) then(aV s.2.1 s.2.2.2).bind fun _=>s.2.1[s.2.2.2.toNat]?.bind fun e=>(bn (fun n:List RO×List Nt×Int=>(lD (decide (0<n.2.2)) ((aV s.2.2.1 (IntKind.i64.wrap (n.2.2 - 1))).bind fun o=>(IU (decide (e.fSegment<o.fSegment)) ((aV s.2.2.1 (IntKind.i64.wrap (n.2.2 - 1))).bind fun p=>(lD (decide (p.fSegment=e.fSegment)) ((aV s.2.2.1 (IntKind.i64.wrap (n.2.2 - 1))).bind fun q=>some (decide (e.fKind<q.fKind)))).bind fun v=>some v)).bind fun v=>some v)).bind fun v=>
     bif v then some (.inl (n.1,n.2.1,IntKind.i64.wrap (n.2.2 - 1))) else gr (some (.inl (n.1,n.2.1,n.2.2)))) (s.1,s.2.1,(s.2.2.1.length:Int))).bind (bZ fun n=>(b5 s.2.2.1 ((none:Option Int).getD 0) ((some n.2.2).getD (s.2.2.1.length:Int))).bind fun o=>ew (gq o.length) (ew (gq (o.length+[e].length)) ((b5 s.2.2.1 ((some n.2.2).getD 0) ((none:Option Int).getD (s.2.2.1.length:Int))).bind fun p=>ew (gq ((o++[e]).length+p.length)) (some (.inl (n.1,n.2.1,o++[e]++p,IntKind.i64.wrap (s.2.2.2+1)))))))
    else gr (some (.inl (s.1,s.2.1,s.2.2.1,s.2.2.2))))
   (fun x=>([],N,x.2,(x.1:Int))) (fun x=>N.length - x.1) (fun x=>x.1<=N.length/\nr tE x.2/\SP tE (N.take x.1) x.2) (by
    rintro⟨j,out⟩ ⟨hj,hs,s8⟩
    simp only at hj hs s8
    have t:out.length=j:=by rw[<-s8.1.length_eq,VA];omega
    rcases VR j N.length with h2|h2
    ·obtain⟨x,hx⟩:=dl h2
     have z:IntKind.i64.wrap ((j:Int)+1)=((j+1:Nat):Int):=aW j oM
     simp only[aX h2,Vo,am,hx,Vh,Ww,z]
     generalize Z:Option.bind (bn _ _) (bZ _)=m
     have key:∃ c,m=some c/\∃ b,c=Sum.inl (([]:List RO),N,b,((j+1:Nat):Int))/\nr tE b/\SP tE (out++[x]) b:=by
      rw[<-Z]
      refine nn (X:=Nat) (C:=fun c=>∃ b,c=Sum.inl (([]:List RO),N,b,((j+1:Nat):Int))/\nr tE b/\SP tE (out++[x]) b) (fun k=>(([]:List RO),N,(k:Int))) (fun k=>k) (fun k=>k<=out.length/\∀ y∈out.drop k,tE x y=true) ?_ out.length ⟨Vs _,by simp⟩
      rintro k ⟨hk,hd⟩
      have fin:(∀ y∈out.take k,tE x y=false)->∃ c,(bZ (fun n:List RO×List Nt×Int=>(b5 out ((none:Option Int).getD 0) ((some n.2.2).getD (out.length:Int))).bind fun o=>ew (gq o.length) (ew (gq (o.length+[x].length)) ((b5 out ((some n.2.2).getD 0) ((none:Option Int).getD (out.length:Int))).bind fun p=>ew (gq ((o++[x]).length+p.length)) (some (.inl (n.1,n.2.1,o++[x]++p,((j+1:Nat):Int))))))) (.inl (([]:List RO),N,(k:Int))):Option ((List RO×List Nt×List Nt×Int)⊕((List RO×List Nt×List Nt×Int)⊕List Nt)))=some c/\∃ b,c=Sum.inl (([]:List RO),N,b,((j+1:Nat):Int))/\nr tE b/\SP tE (out++[x]) b:=by
       intro ht
       have u:b5 out ((none:Option Int).getD 0) ((some (k:Int)).getD (out.length:Int))=some (out.take k):=n5 out k hk
       have s2:b5 out ((some (k:Int)).getD 0) ((none:Option Int).getD (out.length:Int))=some (out.drop k):=by
        unfold b5
        rw[Wy ⟨by simp,by simp;omega,by simp⟩]
        simp
       have l1:gq (out.take k).length=some ():=by unfold gq;rw[Wy (by rw[VA];omega)]
       have l2:gq ((out.take k).length+[x].length)=some ():=by unfold gq;rw[Wy (by rw[VA,VI];omega)]
       have B:gq ((out.take k++[x]).length+(out.drop k).length)=some ():=by unfold gq;rw[Wy (by rw[Vl,VA,Wd,VI];omega)]
       obtain⟨o1,o2⟩:=Pg hs ht hd
       refine⟨_, ?_,out.take k++[x]++out.drop k,rfl,o1,o2⟩
       simp only[bZ,u,s2,l1,l2,B,ew,Vh]
      rcases Xg k with v0|v0
      ·subst v0
       obtain⟨c,T,c2⟩:=fin oS
       refine .inr ⟨.inl (([]:List RO),N,((0:Nat):Int)),c,rfl,T,c2⟩
      ·obtain⟨e,he⟩:∃ e,out[k - 1]?=some e:=dl oM
       have r:IntKind.i64.wrap ((k:Int) - 1)=((k - 1:Nat):Int):=by rw[bk _ oM oM];omega
       have d0:decide ((0:Int)<(k:Int))=true:=VX oM
       have hv:(decide (x.fSegment<e.fSegment)||(decide (e.fSegment=x.fSegment)&&decide (x.fKind<e.fKind)))=tE x e:=by
        unfold tE
        rw[Wa];simp;omega
       have gk:aV out (((k - 1:Nat):Int))=some e:=by rw[am];exact he
       cases h9:tE x e with
       |true=>
        refine .inl ⟨k - 1,⟨by omega, ?_⟩,by omega, ?_⟩
        ·intro y hy
         have:out.drop (k - 1)=e::out.drop k:=by
          have:=WC (l:=out) (i:=k - 1) oM
          rw[this,show k - 1+1=k by omega]
          congr 1
          exact(Vr.1 he).2
         rw[this] at hy
         rcases VK.1 hy with rfl|hy
         ·exact h9
         ·exact hd y hy
        ·dsimp only
         simp only[d0,r,gk,Vh,aO,bx,hv,h9,W7,Vo]
       |false=>
        obtain⟨c,T,c2⟩:=fin (ui hs (P:=fun y=>tE x y=false) I2 (fun v v' h g=>I2.tr v' v x h g) (.inr ⟨e,he,h9⟩))
        refine .inr ⟨.inl (([]:List RO),N,(k:Int)),c, ?_,T,c2⟩
        dsimp only
        simp only[d0,r,gk,Vh,aO,bx,hv,h9,Vn]
        rfl
     obtain⟨c,rfl,b,rfl,o1,o2⟩:=key
     refine .inl ⟨(j+1,b),⟨h2,o1, ?_⟩,by simp only;omega,rfl⟩
     rw[je hx]
     exact(s8.app (SP.refl tE [x])).trans o2
    ·have:j=N.length:=by omega
     subst this
     rw[WF] at s8
     refine .inr ⟨.inl ([],N,out,((N.length:Nat):Int)),out, ?_,rfl,hs,s8⟩
     simp only[aB,Vn];rfl) (0,[]) ⟨V0 _,List.Pairwise.nil,SP.refl _ _⟩
  exact⟨W,rfl,hW,w1,w2⟩
variable {i:Int} {n:Nat} {rl:List RO} {α β:Type} {P:α->β->Prop} {l:List α} {m:List β} {x:α}
abbrev PA:=bo
abbrev PO:=nC
variable {pl:List PO}
theorem Ht (k:List UInt8) (v:Bool) (k':List UInt8):∀ (W:List (List UInt8×Bool)),xB (Im W k v) k'=if k'=k then some v else xB W k'
 |[]=>by
  unfold Im xB
  by_cases h:k'=k<;>simp[h,xB]
 |p::W=>by
  unfold Im
  by_cases Y:k=p.1
  ·rw[Wy Y]
   unfold xB
   by_cases h:k'=k
   ·simp[h]
   ·simp[h,<-Y]
  ·rw[WU Y]
   show(if k'=p.1 then some p.2 else xB (Im W k v) k')=_
   rw[Ht k v k' W]
   by_cases h:k'=k
   ·subst h;simp[Y,xB]
   ·simp[h,xB]
inductive yO {α β:Type} (P:α->β->Prop):List α->List β->Prop
 |nil:yO P [] []
 |cons {x:α} {y:β} {l:List α} {m:List β}:P x y->yO P l m->yO P (x::l) (y::m)
theorem yO.len (h:yO P l m):l.length=m.length:=by
 induction h with
 |nil=>rfl
 |cons _ _ ih=>simp[ih]
theorem yO.app (h:yO P l m) {l':List α} {m':List β} (g:yO P l' m'):yO P (l++l') (m++m'):=by
 induction h with
 |nil=>exact g
 |cons h1 _ ih=>exact .cons h1 ih
theorem yO.take (h:yO P l m) (n:Nat):yO P (l.take n) (m.take n):=by
 induction h generalizing n with
 |nil=>simp;exact .nil
 |cons h1 _ ih=>
  cases n with
  |zero=>exact .nil
  |succ n=>exact .cons h1 (ih n)
theorem yO.get (h:yO P l m) (hx:l[n]?=some x):∃ y,m[n]?=some y/\P x y:=by
 induction h generalizing n with
 |nil=>simp at hx
 |cons h1 _ ih=>
  cases n with
  |zero=>simp at hx;subst hx;exact⟨_,rfl,h1⟩
  |succ n=>exact ih (by simpa using hx)
theorem yO.rep {y:β} (h:P x y) (n:Nat):yO P (List.replicate n x) (List.replicate n y):=by
 induction n with
 |zero=>exact .nil
 |succ n ih=>exact .cons h ih
theorem yO.snoc {α β:Type} {P:α->β->Prop} {x:α}:∀ {l:List α} {m:List β},yO P (l++[x]) m->∃ m' y,m=m'++[y]/\yO P l m'/\P x y
 |[],m,h=>by
  cases h with
  |cons h1 h2=>cases h2;exact⟨[],_,rfl,.nil,h1⟩
 |a::l,m,h=>by
  cases h with
  |cons h1 h2=>
   obtain⟨m',y,rfl,g1,g2⟩:=yO.snoc h2
   exact⟨_::m',y,rfl,.cons h1 g1,g2⟩
def Uv (W:List (List UInt8×Bool)) (l:List (List UInt8)):Prop:=∀ y,(xB W y).getD false=decide (y∈l)
structure Rl (p:PO) (r:RO):Prop where
 kn:p.fknown=r.fheaded
 rf:p.fref=r.fref
 ma:p.fmany=r.fmany
 rs:Uv p.frefs r.frefs
structure R2 (i:Int) (p:PO) (r:RO):Prop where
 kn:p.fknown=r.fheaded
 rf:p.fref=r.fref
 ma:r.fmany=i - p.fat
 at0:0<=p.fat
inductive F7 (i:Int):List PO->List RO->Prop
 |low {pl:List PO} {rl:List RO}:pl.length<=2->yO Rl pl rl->F7 i pl rl
 |top {pl:List PO} {rl:List RO} {x:PO} {y:RO}:pl.length=2->yO Rl pl rl->R2 i x y->F7 i (pl++[x]) (rl++[y])
structure OU (i:Int) (p:PA) (r:RA):Prop where
 nt:p.fnotes=r.fnotes
 lv:F7 i p.flevels r.flevels
theorem F7.len (h:F7 i pl rl):pl.length=rl.length:=by
 cases h with
 |low _ h=>exact h.len
 |top _ h _=>simp[h.len]
theorem F7.take (h:F7 i pl rl) (hn:n<=2):yO Rl (pl.take n) (rl.take n):=by
 cases h with
 |low _ h=>exact h.take n
 |top h0 h _=>
  rw[WY oM,WY (by rw[<-h.len];omega)]
  exact h.take n
theorem um (a:PA) (k i:Int) (h:a.fnotes.length<=100000):b_ a k i=some ((),⟨a.flevels,a.fnotes++[⟨k,i⟩]⟩):=by
 unfold b_ wz;dsimp only
 unfold gq ew
 rw[Wy (by simp only[Vk,Vp];omega)]
 rfl
theorem F8 (a:PA) (c:Nat) (i:Int) (h:a.fnotes.length<=50000) (hl:a.flevels.length<=3):fV a (c:Int) i=some ((),⟨a.flevels.take c,a.fnotes++List.replicate (a.flevels.length - c) ⟨2,i⟩⟩):=by
 unfold fV wA;dsimp only
 rw[show(a.flevels,a.fnotes)=((fun d:Nat=>(a.flevels.take (a.flevels.length - d),a.fnotes++List.replicate d (⟨2,i⟩:Nt))) 0) by simp]
 refine pZ (X:=Nat) (fun d:Nat=>(a.flevels.take (a.flevels.length - d),a.fnotes++List.replicate d (⟨2,i⟩:Nt))) (fun d=>a.flevels.length - d) (fun d=>d<=a.flevels.length - c) ?_ 0 (V0 _)
 intro d hd
 have I:(a.flevels.take (a.flevels.length - d)).length=a.flevels.length - d:=by rw[VA];omega
 rcases VR d (a.flevels.length - c) with h1|h1
 ·refine .inl ⟨d+1,h1,by omega, ?_⟩
  have H:decide ((c:Int)<((a.flevels.take (a.flevels.length - d)).length:Int))=true:=VX (by rw[I];omega)
  have hn:=um ⟨a.flevels.take (a.flevels.length - d),a.fnotes++List.replicate d ⟨2,i⟩⟩ 2 i (by simp only[Vl,VE];omega)
  have w:IntKind.i64.wrap (((a.flevels.take (a.flevels.length - d)).length:Int) - 1)=((a.flevels.length - (d+1):Nat):Int):=by rw[I,bk _ oM oM];omega
  dsimp only
  rw[H,hn]
  simp only[Vo,Vh,w]
  rw[n5 _ _ (by rw[I];omega),List.take_take,WV oM,Vy,yU]
  rfl
 ·have m:d=a.flevels.length - c:=by omega
  have H:decide ((c:Int)<((a.flevels.take (a.flevels.length - d)).length:Int))=false:=VY (by rw[I];omega)
  refine .inr ⟨.inl (a.flevels.take (a.flevels.length - d),a.fnotes++List.replicate d ⟨2,i⟩), ?_, ?_⟩
  ·dsimp only
   rw[H];rfl
  ·unfold bZ
   rw[m]
   have:a.flevels.take (a.flevels.length - (a.flevels.length - c))=a.flevels.take c:=by
    rcases VR c a.flevels.length with h2|h2
    ·rw[show a.flevels.length - (a.flevels.length - c)=c by omega]
    ·rw[VO h2,VO oM]
   rw[this]
theorem Kg:oZ=some [i2,pB,oh]:=by
 unfold oZ bj;dsimp only
 rfl
theorem Ph:o0=some [BG,Ex,Ey]:=by
 unfold o0 bj;dsimp only
 rfl
theorem Th (a b c x:List UInt8):eY [a,b,c] x=some (if x=a then 0 else if x=b then 1 else if x=c then 2 else -1):=by
 unfold eY md;dsimp only
 have w1:IntKind.i64.wrap (0+1)=1:=by rw[bk _ oM oM];omega
 have w2:IntKind.i64.wrap (1+1)=2:=by rw[bk _ oM oM];omega
 have w3:IntKind.i64.wrap (2+1)=3:=by rw[bk _ oM oM];omega
 have g0:aV [a,b,c] 0=some a:=rfl
 have g1:aV [a,b,c] 1=some b:=rfl
 have g2:aV [a,b,c] 2=some c:=rfl
 have d0:decide ((0:Int)<(([a,b,c].length:Nat):Int))=true:=rfl
 have H:decide ((1:Int)<(([a,b,c].length:Nat):Int))=true:=rfl
 have d2:decide ((2:Int)<(([a,b,c].length:Nat):Int))=true:=rfl
 have q:decide ((3:Int)<(([a,b,c].length:Nat):Int))=false:=rfl
 rw[bS]
 simp only[d0,Vo,g0,Vh,w1]
 by_cases h1:x=a
 ·simp[h1,gr,bZ]
 ·simp only[VY h1,Vn,WU h1]
  rw[bS]
  simp only[H,Vo,g1,Vh,w2]
  by_cases h2:x=b
  ·simp[h2,gr,bZ]
  ·simp only[VY h2,Vn,WU h2]
   rw[bS]
   simp only[d2,Vo,g2,Vh,w3]
   by_cases E:x=c
   ·simp[E,gr,bZ]
   ·simp only[VY E,Vn,WU E]
    rw[bS]
    simp only[q,Vn]
    simp[gr,bZ]
variable {es:List ak} {lv:Nat}
def BH:PO:=⟨false,[],0,0,[]⟩
theorem Ti:Rl BH rD:=⟨rfl,rfl,rfl,fun y=>by simp[BH,rD,xB]⟩
theorem Ro (lv:Nat) (L:List PO) (N:List Nt) (f:lv<=3) (u:L.length<=lv) (K:List PO×List Nt->Option (Unit×PA)):
  (bn (fun s:List PO×List Nt=>bif decide (((s.1.length:Nat):Int)<(lv:Int)) then ew (gq (s.1.length+1)) (some (.inl (s.1++[BH],s.2))) else gr (some (.inl (s.1,s.2)))) (L,N)).bind (bZ K)=K (L++List.replicate (lv - L.length) BH,N):=by
 rw[show(L,N)=((fun d:Nat=>(L++List.replicate d BH,N)) 0) by simp]
 refine pZ (X:=Nat) (fun d:Nat=>(L++List.replicate d BH,N)) (fun d=>lv - L.length - d) (fun d=>d<=lv - L.length) ?_ 0 (V0 _)
 intro d hd
 have I:(L++List.replicate d BH).length=L.length+d:=by rw[Vl,VE]
 rcases VR d (lv - L.length) with h1|h1
 ·refine .inl ⟨d+1,h1,by omega, ?_⟩
  have H:decide (((L++List.replicate d BH).length:Int)<(lv:Int))=true:=VX (by rw[I];omega)
  have hl:gq ((L++List.replicate d BH).length+1)=some ():=by unfold gq;rw[Wy (by rw[I];omega)]
  dsimp only
  rw[H,hl,<-yU,<-Vy]
  rfl
 ·have m:d=lv - L.length:=by omega
  have H:decide (((L++List.replicate d BH).length:Int)<(lv:Int))=false:=VY (by rw[I];omega)
  refine .inr ⟨.inl (L++List.replicate d BH,N), ?_, ?_⟩
  ·dsimp only
   rw[H];rfl
  ·rw[m];rfl
theorem Uw (h:Hr es=false):eV (go es)=false:=by
 cases es with
 |nil=>rfl
 |cons e es=>
  unfold Hr at h
  unfold go
  simp only at h⊢
  cases hs:dt e with
  |false=>simp;rfl
  |true=>rw[hs] at h;simpa using h
theorem Ux (h:Hr es=true):eV (go es)=true/\go es=kZ es:=by
 cases es with
 |nil=>simp[Hr] at h
 |cons e es=>
  unfold Hr at h
  simp only[Vj] at h
  unfold go kZ
  simp only[h.1,VW]
  exact⟨h.2,trivial⟩
theorem MJ {L:List PO} {R:List RO} (B:yO Rl L R) (hl:L.length=lv) (f:lv<=2) (ref:List UInt8) (i:Nat):F7 ((i+1:Nat):Int) (L++[⟨true,ref,(i:Int),0,[]⟩]) (R++[⟨true,ref,if lv=2 then 1 else 0,[]⟩]):=by
 by_cases h:lv=2
 ·rw[Wy h]
  exact .top oM B ⟨rfl,rfl,by simp only;omega,by simp only;omega⟩
 ·rw[WU h]
  exact .low oT (B.app (.cons ⟨rfl,rfl,rfl,fun y=>by simp[xB]⟩ .nil))
theorem F9 {P:List PO} {Q:List RO} {x:PO} {y:RO} (B:yO Rl P Q) (d:Rl x y) (hl:P.length+1=lv) (f:lv<=2) (ref:List UInt8) (i:Nat):F7 ((i+1:Nat):Int) (P++[x]++[⟨true,ref,(i:Int),0,[]⟩]) (Q++[y]++[⟨true,ref,if lv=2 then 1 else 0,[]⟩]):=
 MJ (B.app (.cons d .nil)) oT f ref i
theorem I3 {i:Nat} {p:PA} {r:RA} {n:Nat} (hn:n<=2001) (t:OU (i:Int) p r) (hB:x_ n r) (s:aa) (lv:Nat) (f:lv<=2) (hE:vw s.fElements):
  ∃ e,gi p s (lv:Int) (i:Int)=some ((),e)/\OU ((i+1:Nat):Int) e (mu s lv (i:Int) r):=by
 obtain⟨b1,b2,b3⟩:=hB
 obtain⟨e1,e2⟩:=t
 have G:=e2.len
 have u:=F8 p lv (i:Int) (by rw[e1];omega) oM
 have B:yO Rl (p.flevels.take lv) (a8 lv (i:Int) r).flevels:=e2.take f
 have v:p.fnotes++List.replicate (p.flevels.length - lv) ⟨2,(i:Int)⟩=(a8 lv (i:Int) r).fnotes:=by simp only[a8,e1,G]
 have c:(p.flevels.take lv).length<=lv:=by rw[VA];omega
 have hN:(a8 lv (i:Int) r).fnotes.length<=10 * n+3:=by simp only[a8,Vl,VE];omega
 have Z:∀ x∈(a8 lv (i:Int) r).flevels,0<=x.fmany/\x.fmany<=100000/\x.frefs.length<=100000:=by
  intro x hx
  have:=b3 x (VU hx)
  omega
 unfold gi wB;dsimp only
 rw[show(⟨p.flevels,p.fnotes⟩:PA)=p from rfl,u]
 simp only[Vh,Pa s hE,Pc s hE,Te s hE]
 rw[v]
 unfold mu hH
 generalize p.flevels.take lv=L at B c
 generalize a8 lv (i:Int) r=r1 at B hN Z
 obtain⟨R,N⟩:=r1
 simp only at B hN Z⊢
 have m:=B.len
 rcases VR L.length lv with hc|hc
 have H:decide ((L.length:Int)<(lv:Int))=true:=VX oM
 rw[H,Wy oM,um _ 1 (i:Int) (by simp only;omega)]
 simp only[Vo,Vh]
 have key:=fun K=>Ro lv L (N++[⟨1,(i:Int)⟩]) oM c K
 simp only[BH] at key
 simp only[VI]
 rw[key]
 have b:(L++List.replicate (lv - L.length) (⟨false,[],0,0,[]⟩:PO)).length=lv:=by simp only[Vl,VE];omega
 have a:yO Rl (L++List.replicate (lv - L.length) (⟨false,[],0,0,[]⟩:PO)) (R++List.replicate (lv - R.length) rD):=by
  rw[<-m]
  exact B.app (yO.rep Ti _)
 have k2:(N++[(⟨1,(i:Int)⟩:Nt)]).length<=10 * n+4:=by simp only[Vl,Vk,Vp];omega
 have k3:∀ x∈R++List.replicate (lv - R.length) rD,0<=x.fmany/\x.fmany<=100000/\x.frefs.length<=100000:=by
  intro x hx
  rcases VM.1 hx with hx|hx
  ·exact Z x hx
  ·rw[Xo hx];simp[rD]
 generalize L++List.replicate (lv - L.length) (⟨false,[],0,0,[]⟩:PO)=g at b a
 generalize R++List.replicate (lv - R.length) rD=o at a k3
 generalize N++[(⟨1,(i:Int)⟩:Nt)]=h at k2
 cases hh:IP s
 have k5:(h++[(⟨6,(i:Int)⟩:Nt)]).length<=10 * n+5:=by simp only[Vl,Vk,Vp];omega
 simp only[VB,Vo,ka,hh,Vw,VQ]
 rw[um _ 6 (i:Int) (by simp only;omega)]
 simp only[Vh,mR]
 generalize h++[(⟨6,(i:Int)⟩:Nt)]=l at k5
 rotate_left
 have k5:h.length<=10 * n+5:=by omega
 simp only[Vt,Vn,ka,hh,VW]
 generalize h=l at k5
 rotate_left
 have H:decide ((L.length:Int)<(lv:Int))=false:=VY oM
 rw[H,WU oM]
 simp only[Vn]
 have b:L.length=lv:=by omega
 have a:=B
 have k3:=Z
 generalize L=g at b a
 generalize R=o at a k3
 cases hh:IP s
 have k5:(N++[(⟨6,(i:Int)⟩:Nt)]).length<=10 * n+5:=by simp only[Vl,Vk,Vp];omega
 simp only[VB,Vo,ka,hh,Vw,VQ]
 rw[um _ 6 (i:Int) (by simp only;omega)]
 simp only[Vh,mR]
 generalize N++[(⟨6,(i:Int)⟩:Nt)]=l at k5
 rotate_left
 have k5:N.length<=10 * n+5:=by omega
 simp only[Vt,Vn,ka,hh,VW]
 generalize N=l at k5
 all_goals
  rcases Xg lv with h0|h0
  ·subst h0
   have e3:g=[]:=Vx.1 b
   subst e3
   have q:o=[]:=by have:=a.len;cases o with
    |nil=>rfl
    |cons _ _=>simp at this
   subst q
   have d0:decide ((0:Int)<((0:Nat):Int))=false:=rfl
   have j:gq (([]:List PO).length+1)=some ():=rfl
   rw[d0]
   simp only[Vn,Vk,Vp,VD,ew]
   refine⟨_,rfl,⟨by rw[vy], ?_⟩⟩
   rw[vy]
   exact MJ (lv:=0) yO.nil rfl oM _ i
  ·have d0:decide ((0:Int)<(lv:Int))=true:=VX oM
   rcases WW g with e3|⟨P,x,e3⟩
   ·rw[e3] at b;simp at b;omega
   ·rw[WX] at e3
    subst e3
    obtain⟨Q,y,rfl,k,d⟩:=a.snoc
    have E:P.length=lv - 1:=by simp at b;omega
    have hy:=k3 y oS
    have A:IntKind.i64.wrap ((lv:Int) - 1)=((P.length:Nat):Int):=by rw[bk _ oM oM];omega
    have F:aV (P++[x]) ((P.length:Nat):Int)=some x:=by rw[am];simp
    have J:∀ z:PO,(P++[x]).set P.length z=P++[z]:=fun z=>by simp
    have I:IntKind.i64.wrap (x.fmany+1)=x.fmany+1:=by have:=d.ma;exact bk _ oM oM
    have w:∀ z:PO,gq ((P++[z]).length+1)=some ():=fun z=>by unfold gq;rw[Wy oT]
    have C:∀ L,b_ ⟨L,l⟩ 5 (i:Int)=some ((),⟨L,l++[⟨5,i⟩]⟩):=fun L=>um _ _ _ (by simp only;omega)
    simp only[d0,Vo,A,F,Vh,Ww,J,I,aO,d.rs (kZ s.fElements),C,VI,ew]
    rw[rr]
    cases ho:Hr s.fElements with
    |false=>
     have D:=Uw ho
     simp only[XM,Vn]
     simp only[w,Vh]
     refine⟨_,rfl,⟨by simp[CC,D], ?_⟩⟩
     refine F9 (lv:=lv) k ?_ oM f _ i
     refine⟨d.kn,d.rf,by simp[tb,d.ma], ?_⟩
     simp only[tb,D,Vw,VQ]
     exact d.rs
    |true=>
     obtain⟨D,he⟩:=Ux ho
     by_cases Z:kZ s.fElements∈y.frefs
     ·simp only[V3,VX Z,Vo]
      simp only[w,Vh]
      refine⟨_,rfl,⟨by simp[CC,he▸D,he,Z], ?_⟩⟩
      refine F9 (lv:=lv) k ?_ oM f _ i
      refine⟨d.kn,d.rf,by simp[tb,d.ma], ?_⟩
      simp only[tb,D,VW]
      intro z
      rw[d.rs z,he]
      by_cases hz:z=kZ s.fElements
      ·subst hz;simp[Z]
      ·simp[hz]
     ·simp only[V3,VY Z,Vn,Vo]
      simp only[w,Vh]
      refine⟨_,rfl,⟨by simp[CC,he▸D,he,Z], ?_⟩⟩
      refine F9 (lv:=lv) k ?_ oM f _ i
      refine⟨d.kn,d.rf,by simp[tb,d.ma], ?_⟩
      simp only[tb,D,VW]
      intro z
      rw[Ht,he]
      by_cases hz:z=kZ s.fElements
      ·subst hz;simp
      ·simp[hz,d.rs z]
theorem My {s:aa} {lv:Nat} {i:Int} {a:RA} {x:RO} (h:lv<a.flevels.length) (hx:a.flevels[lv]?=some x):
  mS s lv i a=⟨a.flevels.take lv,(a8 (lv+1) i a).fnotes++(if s.fElements.all dt=true then I1 (s.fElements.map firstT) lv i x else[⟨6,i⟩])⟩:=by
 unfold mS
 rw[WU oM,hx]
theorem IZ {i:Nat} {p:PA} {r:RA} {n:Nat} (hi:i<=2001) (hn:n<=2001) (t:OU (i:Int) p r) (hB:x_ n r) (s:aa) (lv:Nat) (f:lv<=2) (hE:vw s.fElements):
  ∃ e,gj p s (lv:Int) (i:Int)=some ((),e)/\OU ((i+1:Nat):Int) e (mS s lv (i:Int) r):=by
 obtain⟨b1,b2,b3⟩:=hB
 obtain⟨e1,e2⟩:=t
 have G:=e2.len
 have hl:=pA hE
 have ht:=yR s.fTag hE
 unfold gj wC;dsimp only
 rcases VR lv r.flevels.length with h1|h1
 ·have H:decide ((p.flevels.length:Int)<=(lv:Int))=false:=VY oM
  have A:IntKind.i64.wrap ((lv:Int)+1)=((lv+1:Nat):Int):=aW lv oM
  have u:=F8 p (lv+1) (i:Int) (by rw[e1];omega) oM
  obtain⟨x,hx⟩:=dl (show lv<p.flevels.length by omega)
  obtain⟨y,hy⟩:=dl h1
  have Y:p.flevels.take (lv+1)=p.flevels.take lv++[x]:=je hx
  have J:(p.flevels.take lv).length=lv:=by rw[VA];omega
  have B:yO Rl (p.flevels.take lv) (r.flevels.take lv):=e2.take f
  have v:p.fnotes++List.replicate (p.flevels.length - (lv+1)) ⟨2,(i:Int)⟩=(a8 (lv+1) (i:Int) r).fnotes:=by simp only[a8,e1,G]
  have hN:(a8 (lv+1) (i:Int) r).fnotes.length<=10 * n+3:=by simp only[a8,Vl,VE];omega
  have d:x.fknown=y.fheaded/\x.fref=y.fref/\(lv≠2->x.fmany=y.fmany)/\(lv=2->IntKind.i64.wrap (IntKind.i64.wrap ((i:Int) - x.fat)+1)=y.fmany+1):=by
   have D:=b3 y (Vq hy)
   generalize m:p.flevels=pl at e2 hx
   generalize C:r.flevels=rl at e2 hy
   cases e2 with
   |low h0 h=>
    obtain⟨z,hz,hq⟩:=h.get hx
    have:z=y:=by rw[hy] at hz;exact(W5 hz).symm
    subst this
    refine⟨hq.kn,hq.rf,fun _=>hq.ma,fun h2=> ?_⟩
    have:=Vr.1 hx
    obtain⟨h5,_⟩:=this
    omega
   | @top F I x' y' h0 h hq=>
    rcases VR lv 2 with h2|h2
    ·rw[V7 oM] at hx
     rw[V7 (by rw[<-h.len];omega)] at hy
     obtain⟨z,hz,hq⟩:=h.get hx
     have:z=y:=by rw[hy] at hz;exact(W5 hz).symm
     subst this
     exact⟨hq.kn,hq.rf,fun _=>hq.ma,fun h2=>by omega⟩
    ·have E:lv=2:=by omega
     subst E
     rw[VP oM,h0] at hx
     rw[VP (by rw[<-h.len];omega),<-h.len,h0] at hy
     simp at hx hy
     subst hx hy
     refine⟨hq.kn,hq.rf,fun g=>absurd rfl g,fun _=> ?_⟩
     have:=hq.ma
     have:=hq.at0
     rw[bk ((i:Int) - x'.fat) oM oM,bk _ oM oM]
     omega
  have M:mq s=some (Rd s.fElements):=ht
  rw[My h1 hy,H,show(⟨p.flevels,p.fnotes⟩:PA)=p from rfl,A,u,Y,v]
  simp only[Vn,Vh,M,Kg]
  have c:∀ N,OU ((i+1:Nat):Int) (⟨p.flevels.take lv,N⟩:PA) (⟨r.flevels.take lv,N⟩:RA):=fun N=>⟨rfl,.low (by rw[J];exact f) B⟩
  generalize(a8 (lv+1) (i:Int) r).fnotes=N at hN
  generalize p.flevels.take lv=P at J c
  have g1:aV (P++[x]) (lv:Int)=some x:=by rw[am,<-J];simp
  have g3:b5 (P++[x]) 0 (lv:Int)=some P:=by rw[n5 _ _ oT,<-J];simp
  have o:∀ L k,b_ ⟨L,N⟩ k (i:Int)=some ((),⟨L,N++[⟨k,i⟩]⟩):=fun L k=>um _ _ _ (by simp only;omega)
  have V:∀ L k j,b_ ⟨L,N++[⟨j,i⟩]⟩ k (i:Int)=some ((),⟨L,N++[⟨j,i⟩]++[⟨k,i⟩]⟩):=fun L k j=>um _ _ _ (by simp only[Vl,Vk,Vp];omega)
  have w2:IntKind.i64.wrap ((([i2,pB,oh]:List (List UInt8)).length:Int) - 1)=2:=by
   rw[show((([i2,pB,oh]:List (List UInt8)).length:Int) - 1)=2 from rfl,bk _ oM oM]
  have d2:decide ((lv:Int)=2)=decide (lv=2):=by
   by_cases h:lv=2
   ·rw[VX h,VX oM]
   ·rw[VY h,VY oM]
  simp only[g1,g3,Vh,w2,d2,o]
  unfold Rd
  cases hs:s.fElements.all dt with
  |false=>
   simp only[Vw,VQ,VB,Ke,Vh,Vo]
   exact⟨_,rfl,c _⟩
  |true=>
   simp only[VW,Vt,Hs,Vh]
   generalize s.fElements.map firstT=ts at hl
   match ts with
   |[]=>exact⟨_,rfl,c _⟩
   |[q1]=>exact⟨_,rfl,c _⟩
   |q1::q2::q3::ts=>
    have q:decide (((q1::q2::q3::ts).length:Int)=2)=false:=by simp only[Vk,VJ];omega
    simp only[q,VB,Ke,Vh,Vo]
    exact⟨_,rfl,c _⟩
   |[a,b]=>
    have q:decide ((([a,b]:List (List UInt8)).length:Int)=2)=true:=rfl
    have e0:aV [a,b] 0=some a:=rfl
    have w:aV [a,b] 1=some b:=rfl
    have l:o4 a 9=some (if dJ a=true then i1 a else 0,dJ a):=by
     rw[QJ a (hl a oS)]
     cases h:dJ a with
     |true=>simp
     |false=>simp
    simp only[q,Vt,Hs,e0,w,Vh,uj b (hl b oS),l,I1]
    cases hb:eV b with
    |false=>
     simp only[VB,Vo,Vw,and_false,VQ]
     exact⟨_,rfl,c _⟩
    |true=>
     simp only[Vt,Vn]
     cases ha:dJ a with
     |false=>
      simp only[VB,Vo,Vw,false_and,VQ]
      exact⟨_,rfl,c _⟩
     |true=>
      simp only[Vt,Vn,VW,and_self]
      cases hk:x.fknown with
      |false=>
       rw[<-d.1,hk]
       simp only[VB,Vo,Vw,VQ,VL]
       exact⟨_,rfl,c _⟩
      |true=>
       rw[<-d.1,hk,<-d.2.1]
       simp only[Vt,Vn,VW]
       by_cases h2:lv=2
       ·rw[VX h2,Wy h2,d.2.2.2 h2]
        simp only[Vo]
        by_cases E:i1 a=y.fmany+1<;>by_cases h4:b=x.fref<;>simp only[E,h4,VS,Xh,Vt,VB,Vo,Vn,VW,VQ,V,Vh,VL,VC]
        ·exact⟨_,rfl,c _⟩
        ·exact⟨_,rfl,c _⟩
        ·exact⟨_,rfl,c _⟩
        ·exact⟨_,rfl,by rw[<-Vy];exact c _⟩
       ·rw[VY h2,WU h2,<-d.2.2.1 h2]
        simp only[Vn,Int.add_zero]
        by_cases E:i1 a=x.fmany<;>by_cases h4:b=x.fref<;>simp only[E,h4,VS,Xh,Vt,VB,Vo,Vn,VW,VQ,V,Vh,VL,VC]
        ·exact⟨_,rfl,c _⟩
        ·exact⟨_,rfl,c _⟩
        ·exact⟨_,rfl,c _⟩
        ·exact⟨_,rfl,by rw[<-Vy];exact c _⟩
 ·have H:decide ((p.flevels.length:Int)<=(lv:Int))=true:=VX oM
  have ht:mS s lv (i:Int) r=mR r 1 i:=by unfold mS;rw[Wy h1]
  rw[H,ht,um _ 1 (i:Int) (by simp only;rw[e1];omega)]
  refine⟨_,rfl,⟨by simp only[mR,e1], ?_⟩⟩
  have E:=e2.take (n:=2) oM
  rw[VO oM,VO oM] at E
  exact .low (by simp only;omega) E
variable {a:RA} {k:Int} {lv:Nat} {s:aa}
def QN (x:Nt):Prop:=0<=x.fSegment/\x.fSegment<=2000/\0<=x.fKind/\x.fKind<=7
def x9 (a:RA):Prop:=∀ x∈a.fnotes,QN x
theorem E0 {N M:List Nt} (h:∀ x∈N,QN x) (g:∀ x∈M,QN x):∀ x∈N++M,QN x:=fun x hx=>(VM.1 hx).elim (h x) (g x)
theorem CA {i:Int} (h1:0<=k) (h2:k<=7) (E:0<=i) (h4:i<=2000):∀ x∈[(⟨k,i⟩:Nt)],QN x:=fun x hx=>by rw[V1.1 hx];exact⟨E,h4,h1,h2⟩
theorem Mz:∀ x∈([]:List Nt),QN x:=fun x hx=>by cases hx
section
variable {i:Int} (E:0<=i) (h4:i<=2000)
include E h4
theorem F2 {c:Nat} (h:x9 a):x9 (a8 c i a):=E0 h (fun x hx=>by rw[Xo hx];exact⟨E,h4,by simp,by simp⟩)
theorem I0 (h1:0<=k) (h2:k<=7) (h:x9 a):x9 (mR a k i):=E0 h (CA h1 h2 E h4)
theorem Re (h:x9 a):x9 (mu s lv i a):=by
 have h5:=F2 E h4 (c:=lv) h
 have h6:x9 (hH lv i (a8 lv i a)):=by
  unfold hH
  split
  ·exact E0 h5 (CA oS oS E h4)
  ·exact h5
 have h7:x9 (ka s i (hH lv i (a8 lv i a))):=by
  unfold ka
  split
  ·exact h6
  ·exact I0 E h4 oS oS h6
 unfold mu
 simp only[x9]
 generalize ka s i (hH lv i (a8 lv i a))=b at h7
 unfold sx
 split
 ·exact h7
 ·refine E0 h7 ?_
  unfold CC
  split
  ·exact CA oS oS E h4
  ·exact Mz
theorem Tf {ts:List (List UInt8)} {lv:Nat} {x:RO}:∀ y∈I1 ts lv i x,QN y:=by
 have q:∀ (c:Prop) [Decidable c] (k:Int),0<=k->k<=7->∀ x∈(if c then([]:List Nt) else[⟨k,i⟩]),QN x:=fun c _ k a b=>by
  split
  ·exact Mz
  ·exact CA a b E h4
 unfold I1
 split
 ·split
  ·split
   ·exact E0 (q _ 3 oD oD) (q _ 4 oD oD)
   ·exact Mz
  ·exact CA oS oS E h4
 ·exact CA oS oS E h4
theorem Rf (h:x9 a):x9 (mS s lv i a):=by
 unfold mS
 split
 ·exact I0 E h4 oS oS h
 ·split
  ·exact h
  ·refine E0 (F2 E h4 h) ?_
   split
   ·exact Tf E h4
   ·exact CA oS oS E h4
theorem Rg (h:x9 a):x9 (fK s i a):=by
 unfold fK
 split
 ·exact Re E h4 h
 ·split
  ·exact Rf E h4 h
  ·split
   ·exact I0 E h4 oS oS h
   ·unfold CE
    split
    ·exact h
    ·exact h
end
theorem QL:∀ (l:List aa) (i:Nat) (a:RA),i+l.length<=2000->x9 a->x9 (hJ l i a)
 |[],i,a,_,h=>h
 |s::l,i,a,hl,h=>QL l (i+1) _ (by simp at hl;omega) (Rg oM (by simp at hl;omega) h)
theorem QM {l:List aa} (hl:l.length<=2000):∀ x∈ya l,QN x:=F2 oM oM (QL l 0 _ oM (fun x hx=>by cases hx))
theorem Tg:KY QN o5 tE:=by
 rintro⟨k1,u⟩ ⟨k2,s2⟩ ⟨a1,a2,a3,a4⟩ ⟨b1,b2,b3,c⟩
 simp only at a1 a2 a3 a4 b1 b2 b3 c
 unfold o5 md;dsimp only
 unfold tE
 simp only
 by_cases h:u=s2
 ·rw[VX h]
  refine⟨_,rfl, ?_⟩
  rw[bk _ oM oM,Wa]
  simp;omega
 ·rw[VY h]
  refine⟨_,rfl, ?_⟩
  rw[bk _ oM oM,Wa]
  simp;omega
theorem Pb {i:Nat} {p:PA} {r:RA} {x:RO} (t:OU (i:Int) p r) (E:¬ r.flevels.length<3):OU ((i+1:Nat):Int) p (CE r):=by
 obtain⟨pl,a⟩:=p
 obtain⟨rl,b⟩:=r
 obtain⟨e1,e2⟩:=t
 simp only at e1 e2 E
 cases e2 with
 |low h0 h=>have:=h.len;omega
 | @top P R x' y' h0 h hq=>
  have hl:=h.len
  have L:(R++[y'])[2]?=some y':=by rw[VP oM,<-hl,h0];rfl
  have hs:∀ z:RO,(R++[y']).set 2 z=R++[z]:=fun z=>by rw[We _ _ oM,<-hl,h0];rfl
  unfold CE
  simp only[L,hs]
  refine⟨e1,.top h0 h ⟨hq.kn,hq.rf, ?_,hq.at0⟩⟩
  have:=hq.ma
  simp only
  omega
theorem yS (l:List aa) (h:MI l):∃ W,uR l=some W/\nr tE W/\SP tE (ya l) W:=by
 have hB:∀ i,i<=l.length->x_ i (hJ (l.take i) 0 ⟨[],[]⟩):=fun i hi=>by
  have:=F6 (l.take i) 0 _ U3
  rwa[VA,VD,WV hi] at this
 have I:=h.1
 unfold uR wD;dsimp only
 refine nn (X:=PA×Nat) (C:=fun W=>nr tE W/\SP tE (ya l) W) (fun x=>(x.1.flevels,x.1.fnotes,(x.2:Int))) (fun x=>l.length - x.2) (fun x=>x.2<=l.length/\OU (x.2:Int) x.1 (hJ (l.take x.2) 0 ⟨[],[]⟩)) ?_ (⟨[],[]⟩,0) ⟨V0 _,rfl,.low oS .nil⟩
 rintro⟨p,i⟩ ⟨hi,t⟩
 simp only at hi t⊢
 have hb:=hB i hi
 rcases VR i l.length with h1|h1
 ·left
  obtain⟨s,hs⟩:=dl h1
  have hE:=h.2 s (Vq hs)
  have w:IntKind.i64.wrap ((i:Int)+1)=((i+1:Nat):Int):=aW i oM
  have D:hJ (l.take (i+1)) 0 ⟨[],[]⟩=fK s (i:Int) (hJ (l.take i) 0 ⟨[],[]⟩):=by
   rw[je hs,zW,VA,VD,WV hi]
  have b:∀ e,OU ((i+1:Nat):Int) e (fK s (i:Int) (hJ (l.take i) 0 ⟨[],[]⟩))->∀ m,m=some (Sum.inl (e.flevels,e.fnotes,((i+1:Nat):Int)))->
    ∃ y:PA×Nat,(y.2<=l.length/\OU (y.2:Int) y.1 (hJ (l.take y.2) 0 ⟨[],[]⟩))/\l.length - y.2<l.length - i/\m=some (Sum.inl (y.1.flevels,y.1.fnotes,(y.2:Int)):(List PO×List Nt×Int)⊕((List PO×List Nt×Int)⊕List Nt)):=by
   intro e Y m Z
   exact⟨(e,i+1),⟨h1,by rw[D];exact Y⟩,by simp only;omega,Z⟩
  generalize hJ (l.take i) 0 ⟨[],[]⟩=a at hb t b
  obtain⟨b1,b2,b3⟩:=id hb
  simp only[aX h1,Vo,am,hs,Vh,Kg,Ph,Th,w]
  have k:fK s (i:Int) a=_:=rfl
  unfold fK at b
  by_cases j:s.fTag=i2
  ·obtain⟨e,k1,k2⟩:=I3 oM t hb s 0 oM hE
   refine b e ?_ _ ?_
   ·rw[Wy (by rw[j];rfl),j];exact k2
   ·rw[Wy j]
    have d:decide ((0:Int)<=0)=true:=rfl
    simp only[d,Vo]
    rw[show(⟨p.flevels,p.fnotes⟩:PA)=p from rfl,show(0:Int)=((0:Nat):Int) from rfl,k1]
    rfl
  rw[WU j]
  by_cases t2:s.fTag=pB
  ·obtain⟨e,k1,k2⟩:=I3 oM t hb s 1 oM hE
   refine b e ?_ _ ?_
   ·rw[Wy (by rw[t2];rfl),t2];exact k2
   ·rw[Wy t2]
    have d:decide ((0:Int)<=1)=true:=rfl
    simp only[d,Vo]
    rw[show(⟨p.flevels,p.fnotes⟩:PA)=p from rfl,show(1:Int)=((1:Nat):Int) from rfl,k1]
    rfl
  rw[WU t2]
  by_cases t3:s.fTag=oh
  ·obtain⟨e,k1,k2⟩:=I3 oM t hb s 2 oM hE
   refine b e ?_ _ ?_
   ·rw[Wy (by rw[t3];rfl),t3];exact k2
   ·rw[Wy t3]
    have d:decide ((0:Int)<=2)=true:=rfl
    simp only[d,Vo]
    rw[show(⟨p.flevels,p.fnotes⟩:PA)=p from rfl,show(2:Int)=((2:Nat):Int) from rfl,k1]
    rfl
  rw[WU t3]
  have hh:gE s.fTag=false:=by unfold gE;simp[j,t2,t3]
  rw[WU (by rw[hh];decide)] at b
  have q:decide ((0:Int)<= -1)=false:=rfl
  simp only[q,Vn]
  by_cases t4:s.fTag=BG
  ·obtain⟨e,k1,k2⟩:=IZ oM oM t hb s 0 oM hE
   refine b e ?_ _ ?_
   ·rw[Wy (by rw[t4];decide),t4];exact k2
   ·rw[Wy t4]
    have d:decide ((0:Int)<=0)=true:=rfl
    simp only[d,Vo]
    rw[show(⟨p.flevels,p.fnotes⟩:PA)=p from rfl,show(0:Int)=((0:Nat):Int) from rfl,k1]
    rfl
  rw[WU t4]
  by_cases t5:s.fTag=Ex
  ·obtain⟨e,k1,k2⟩:=IZ oM oM t hb s 1 oM hE
   refine b e ?_ _ ?_
   ·rw[Wy (by rw[t5];decide),t5];exact k2
   ·rw[Wy t5]
    have d:decide ((0:Int)<=1)=true:=rfl
    simp only[d,Vo]
    rw[show(⟨p.flevels,p.fnotes⟩:PA)=p from rfl,show(1:Int)=((1:Nat):Int) from rfl,k1]
    rfl
  rw[WU t5]
  by_cases g:s.fTag=Ey
  ·obtain⟨e,k1,k2⟩:=IZ oM oM t hb s 2 oM hE
   refine b e ?_ _ ?_
   ·rw[Wy (by rw[g];decide),g];exact k2
   ·rw[Wy g]
    have d:decide ((0:Int)<=2)=true:=rfl
    simp only[d,Vo]
    rw[show(⟨p.flevels,p.fnotes⟩:PA)=p from rfl,show(2:Int)=((2:Nat):Int) from rfl,k1]
    rfl
  rw[WU g]
  simp only[q,Vn]
  have hz:dK s.fTag=0:=by unfold dK;simp[j,t2,t3,t4,t5,g]
  rw[WU oM] at b
  have G:=t.lv.len
  by_cases E:a.flevels.length<3
  ·rw[Wy E] at b
   have d:decide ((p.flevels.length:Int)<(([i2,pB,oh]:List (List UInt8)).length:Int))=true:=VX (by simp only[Vk,Vp];omega)
   refine b ⟨p.flevels,p.fnotes++[⟨7,i⟩]⟩ ⟨by simp only[mR,t.nt], ?_⟩ _ ?_
   ·have h5:=t.lv.take (n:=2) oM
    rw[VO oM,VO oM] at h5
    exact .low (by simp only;omega) h5
   ·rw[d,um _ 7 (i:Int) (by simp only;rw[t.nt];omega)]
    rfl
  ·rw[WU E] at b
   have d:decide ((p.flevels.length:Int)<(([i2,pB,oh]:List (List UInt8)).length:Int))=false:=VY (by simp only[Vk,Vp];omega)
   refine b p (Pb (x:=rD) t E) _ ?_
   rw[d];rfl
 ·right
  have:i=l.length:=by omega
  subst this
  rw[WF] at hb t
  obtain⟨b1,b2,b3⟩:=hb
  have G:=t.lv.len
  have u:=F8 p 0 ((l.length:Nat):Int) (by rw[t.nt];omega) oM
  have hN:p.fnotes++List.replicate (p.flevels.length - 0) ⟨2,((l.length:Nat):Int)⟩=ya l:=by simp only[ya,a8,t.nt,G]
  have o:(ya l).length<=137438953472:=by simp only[ya,a8,Vl,VE];omega
  refine⟨.inl (p.flevels,p.fnotes,((l.length:Nat):Int)), ?_⟩
  simp only[aB,Vn]
  simp only[bZ]
  rw[show(⟨p.flevels,p.fnotes⟩:PA)=p from rfl,show(0:Int)=((0:Nat):Int) from rfl,u,hN]
  simp only[Vh]
  obtain⟨W,g1,g2,g3⟩:=EY (f:=56) (c:=[]) (p:=o5) (by intro a0 a1 r D;exact sW a0 a1 r D) I2 Tg (ya l) (QM I) o
  exact⟨W,rfl,by rw[g1];rfl,g2,g3⟩
variable {t:List UInt8} {y:Ix}
def OZ:Ix:=⟨[],[],[],0,0,false,[]⟩
abbrev S9:=Ix×ab×Bool×Int×Int
def AY (i e:Int):S9:=(OZ,IV,false,i,e)
def Q9 (m:ab) (p:Bool) (x:List aa) (k:Nat):Int:=((te m p (x.take k)).length:Int)+8
def IF (b:ce) (m:ab) (i:Int):Prop:=o8 b=(m,i,0)/\b.length<=500000
inductive Mq (b:ce):S9->Prop
 |head {m:ab} {i e:Int} (h:o8 b=(m,i,e)) (he:e≠0):Mq b (AY i e)
 |big {m:ab} {i:Int} (h:o8 b=(m,i,0)) (hl:500000<b.length):Mq b (AY 0 2)
 |syn {m:ab} {i:Int} {q:ce} (h:IF b m i) (hc:sy m [] false (b.drop 8) (.inl q)):Mq b (AY ((((b.drop 8).length - q.length:Nat):Int)+8) 10)
 |seg {m:ab} {i:Int} {x:List aa} {p:Bool} (h:IF b m i) (hc:sy m [] false (b.drop 8) (.inr (x,p))) (hs:fJ x≠0):Mq b (AY (if fJ x=10 then 8 else 0) (fJ x))
 |note {m:ab} {i:Int} {x:List aa} {p:Bool} {n:Nt} {N:List Nt} (h:IF b m i) (hc:sy m [] false (b.drop 8) (.inr (x,p))) (hs:fJ x=0) (hW:nr tE (n::N)) (hP:SP tE (ya x) (n::N)):Mq b (AY (Q9 m p x n.fSegment.toNat) 3)
 |nil {m:ab} {i:Int} {p:Bool} (h:IF b m i) (hc:sy m [] false (b.drop 8) (.inr ([],p))):Mq b (AY 0 9)
 |ihd {m:ab} {i:Int} {x:List aa} {p:Bool} {k:Nat} {s:aa} (h:IF b m i) (hc:sy m [] false (b.drop 8) (.inr (x,p))) (hs:fJ x=0) (hq:ya x=[]) (hk:x[k+1]?=some s) (ht:s.fTag=i2) (hj:∀ j s,j<k->x[j+1]?=some s->s.fTag≠i2):Mq b (AY (Q9 m p x (k+1)) 3)
 |fin {m:ab} {i:Int} {y:Ix} {p:Bool} (h:IF b m i) (hc:sy m [] false (b.drop 8) (.inr (uT y,p))) (hs:fJ (uT y)=0) (hq:ya (uT y)=[]) (hj:∀ j s,(uT y)[j+1]?=some s->s.fTag≠i2) (hE:Rc y):Mq b (if Qb y=0 then(y,m,p,0,0) else AY 0 (Qb y))
theorem Oz (b:ce):∃ z,Mq b z:=by
 obtain⟨⟨m,i,e⟩,D⟩:∃ z,o8 b=z:=⟨_,rfl⟩
 by_cases he:e=0
 ·subst he
  by_cases hl:500000<b.length
  ·exact⟨_,.big D hl⟩
  ·have h:IF b m i:=⟨D,by omega⟩
   obtain⟨res,hc⟩:=Lk m (b.drop 8).length (b.drop 8) (Vs _) [] false
   cases res with
   |inl q=>exact⟨_,.syn h hc⟩
   |inr a=>
    obtain⟨x,p⟩:=a
    by_cases hs:fJ x=0
    ·obtain⟨W,_,w1,w2⟩:=yS x (vz hs)
     cases W with
     |cons n N=>exact⟨_,.note h hc hs w1 w2⟩
     |nil=>
      have hq:ya x=[]:=Vx.1 (by rw[w2.1.length_eq];rfl)
      by_cases hx:x=[]
      ·subst hx;exact⟨_,.nil h hc⟩
      ·by_cases hi:∀ j s,x[j+1]?=some s->s.fTag≠i2
       ·obtain⟨y,rfl,hE⟩:=Mv hq hx (fun s hs=>by
         obtain⟨j,hj,rfl⟩:=WS.1 hs
         rw[List.getElem_drop]
         rw[Wd] at hj
         exact hi j _ (by rw[Nat.add_comm j 1];exact Vu oM))
        exact⟨_,.fin h hc hs hq hi hE⟩
       ·have:∃ k,(∃ s,x[k+1]?=some s/\s.fTag=i2)/\∀ j,j<k->¬ ∃ s,x[j+1]?=some s/\s.fTag=i2:=by
         have h0:∃ k s,x[k+1]?=some s/\s.fTag=i2:=Classical.byContradiction fun g=>hi fun j s hj ht=>g ⟨j,s,hj,ht⟩
         obtain⟨k,hk⟩:=h0
         induction k using Nat.strongRecOn with
         |_ k ih=>
          by_cases hj:∃ j,j<k/\∃ s,x[j+1]?=some s/\s.fTag=i2
          ·obtain⟨j,h1,h2⟩:=hj;exact ih j h1 h2
          ·exact⟨k,hk,fun j h1 h2=>hj ⟨j,h1,h2⟩⟩
        obtain⟨k,⟨s,hk,ht⟩,hj⟩:=this
        exact⟨_,.ihd h hc hs hq hk ht (fun j s' h1 h2 E=>hj j h1 ⟨s',h2,E⟩)⟩
    ·exact⟨_,.seg h hc hs⟩
 ·exact⟨_,.head D he⟩
theorem L5 (h:eV t=true):t.length<=14:=by
 unfold eV at h
 simp only[Vj,Vv] at h
 exact h.1.2
theorem L6 (h:dP t=true):t.length<=1000:=by
 cases t with
 |nil=>simp
 |cons b l=>
  unfold dP at h
  simp only[Vj,Vv] at h
  simp only[Vk]
  omega
theorem IG {α β:Type} {f:α->List β} {l:List α} {e:α} (h:e∈l):(f e).length<=(l.flatMap f).length:=by
 obtain⟨i,hi,rfl⟩:=WS.1 h
 exact Kl (Vu hi)
theorem JZ (h:Rc y) (hs:fJ (uT y)=0):P9 y/\Vf y:=by
 obtain⟨hl,ha⟩:=o_ hs
 have M:=yH y
 have L:=N_ (x:=y)
 have rf:∀ {t:List UInt8},eV t=true->t.length<=MX:=fun h=>Wz (L5 h) (by unfold MX;omega)
 have b:∀ {t:List UInt8},dP t=true->t.length<=MX:=fun h=>Wz (L6 h) (by unfold MX;omega)
 have hd:=h.day
 have d:=h.sec
 refine⟨⟨rf h.ref,b h.snd,b h.rcv,by omega,fun g a=> ?_⟩,⟨⟨by omega,by omega⟩,⟨by omega,by omega⟩,by omega⟩⟩
 obtain⟨a1,a2,a3⟩:=h.grp g a
 have e:=IG (f:=OX) a
 have j:=N9 (g:=g)
 have e1:=D5 g
 refine⟨rf a1,b a2,by omega,fun m Z=> ?_⟩
 obtain⟨b1,b2,b3,c⟩:=a3 m Z
 have i:=IG (f:=Q4) Z
 have e2:=D4 m
 refine⟨rf b1,b b2,b b3,by omega,fun s hs=> ?_⟩
 have:s∈uT y:=by
  unfold uT
  refine Wx _ (Wk _ (List.mem_flatMap.2 ⟨g,a, ?_⟩))
  unfold OX
  refine Wx _ (Wk _ (List.mem_flatMap.2 ⟨m,Z, ?_⟩))
  unfold Q4
  exact Wx _ (Wk _ hs)
 have:=(Hb (ha s this)).2.1
 omega
theorem ug (h:Rc y):(dJ (Lib.itoa y.fDay)=true/\i1 (Lib.itoa y.fDay)=y.fDay)/\(dJ (Lib.itoa y.fSecond)=true/\i1 (Lib.itoa y.fSecond)=y.fSecond)/\∀ g∈y.fGroups,∀ m∈g.fMessages,∀ s∈m.fSegments,dK s.fTag=0:=by
 have hd:=h.day
 have d:=h.sec
 obtain⟨H,d2,_⟩:=Hk (t:=y.fDay) oM oM
 obtain⟨u,s2,_⟩:=Hk (t:=y.fSecond) oM oM
 exact⟨⟨H,d2⟩,⟨u,s2⟩,fun g L m Z=>((h.grp g L).2.2 m Z).2.2.2⟩
theorem TP (h:Rc y) (hs:fJ (uT y)=0):jy (uT y)=some y:=UV rfl (vz hs) (ug h).1 (ug h).2.1 (ug h).2.2
theorem TQ (h:Rc y) (hs:fJ (uT y)=0):gZ (uT y)=some y:=UW rfl (vz hs) (ug h).1 (ug h).2.1 (ug h).2.2
structure Pj (m:ab):Prop where
 bE:e9 m.fElement=true
 bN:e9 m.fEnd=true
 pR:m.fPart≠m.fRepeat
 eN:m.fElement≠m.fEnd
 eP:m.fElement≠m.fPart
 eR:m.fElement≠m.fRepeat
 nP:m.fEnd≠m.fPart
 nR:m.fEnd≠m.fRepeat
 esc:∀ y,y=m.fElement\/y=m.fPart\/y=m.fRepeat\/y=m.fEnd->zY m y=false
theorem Hx {m:ab} (h:jS m=0):Pj m:=by
 unfold jS at h
 split at h
 ·cases h
 ·rename_i hb
  split at h
  ·cases h
  ·rename_i ht
   have U:∀ a b:UInt8,ud a b=false->b≠a:=fun a b h e=>by
    have:=(uo a b).2 e.symm
    rw[h] at this;cases this
   unfold JV at hb
   unfold zI at ht
   simp only[V8,not_or,WK,Bool.not_eq_eq_eq_not,Vt,VB] at hb ht
   obtain⟨⟨⟨⟨b1,b2⟩,b3⟩,c⟩,d⟩:=hb
   obtain⟨⟨⟨⟨⟨⟨⟨⟨⟨j,t2⟩,t3⟩,t4⟩,t5⟩,g⟩,i⟩,k⟩,t9⟩,f⟩:=ht
   refine⟨by simpa using b1,by simpa using c,(U _ _ t3),U _ _ t4,U _ _ j,U _ _ t2,(U _ _ t5).symm,(U _ _ g).symm,fun y hy=> ?_⟩
   cases he:zY m y with
   |false=>rfl
   |true=>
    have h2:=((Hu m y).1 he).2
    rcases hy with h|h|h|h
    ·exact absurd (h.symm.trans h2) (U _ _ i)
    ·exact absurd (h.symm.trans h2) (U _ _ k)
    ·exact absurd (h.symm.trans h2) (U _ _ t9)
    ·exact absurd (h2.symm.trans h) (U _ _ f).symm
variable {b:ce} {m:ab} {p:Bool} {x:List aa}
theorem O0 (i e:Int):tt i e=some (AY i e):=by
 unfold tt n2;dsimp only
 rfl
theorem SM {i:Int} (h:o8 b=(m,i,0)):8<=b.length/\jS m=0:=by
 obtain⟨h1,h2⟩:=Ow h
 have:=Wf List.length h2
 simp only[Vl] at this
 have h8:(nH m).length=8:=rfl
 exact⟨by omega,h1⟩
theorem fW {α:Type} {l:List α} {k:Nat} (h:k<=l.length):b5 l ((some (k:Int)).getD 0) ((none:Option Int).getD (l.length:Int))=some (l.drop k):=by
 unfold b5
 simp only[Wi,W8]
 rw[Wy oM]
 simp
theorem zM (m:ab) (p:Bool) (x:List aa) (k:Nat):(te m p (x.take k)).length<=(te m p x).length:=by
 have:te m p x=te m p (x.take k)++te m p (x.drop k):=by
  unfold te
  rw[<-XC,VH]
 rw[this,Vl]
 omega
theorem Cq (Z:jS m=0) (hc:sy m [] false b (.inr (x,p))):b=te m p x:=by
 have hk:=Hx Z
 obtain⟨_,ys,e1,e2,_⟩:=ML hk.pR hk.eN hc x p rfl
 rw[e2,e1,VC]
theorem Hc (Z:jS m=0) (h8:8<=b.length) (hb:b.length<=500000) (hc:sy m [] false (b.drop 8) (.inr (x,p))) {c:aN} (h1:c.fstarts.length=x.length) (h2:Ry m (b.drop 8) (.inr (x,p)) c.fstarts) (k:Nat):
  tu (k:Int) (some c) b=some (Q9 m p x k):=by
 have hk:=Hx Z
 have ha:=Wf List.length (Cq Z hc)
 rw[Wd] at ha
 have ht:=zM m p x k
 unfold tu n2;dsimp only
 simp only[Vh]
 unfold Q9
 by_cases hl:k<x.length
 ·have d:decide ((k:Int)<(c.fstarts.length:Int))=true:=VX oM
  obtain⟨n,hn⟩:=dl (l:=c.fstarts) (i:=k) oM
  have G:=Oy hk.pR hk.eN hc h2 hn oM
  rw[d,Vo,am,hn]
  simp only[Vh]
  rw[G,bk _ oM oM]
 ·have d:decide ((k:Int)<(c.fstarts.length:Int))=false:=VY oM
  rw[d,Vn,VO oM]
  congr 1
  omega
theorem Hd (hs:fJ x=0) (p:Bool) (k:Nat):i_ x m p (k:Int)=some ((te m p (x.take k)).length:Int):=by
 obtain⟨hl,ha⟩:=o_ hs
 unfold i_ wP;dsimp only
 have e:b5 x ((none:Option Int).getD 0) ((some (if(x.length:Int)<(k:Int) then(x.length:Int) else(k:Int))).getD (x.length:Int))=some (x.take k):=by
  unfold b5
  simp only[Wi,W8]
  by_cases h:x.length<k
  ·rw[Wy (by omega:(x.length:Int)<(k:Int)),Wy oM]
   simp[VO (by omega:x.length<=k)]
  ·rw[WU (by omega:¬ (x.length:Int)<(k:Int)),Wy oM]
   simp
 have hz:fJ (x.take k)=0:=by
  unfold fJ
  rw[WU (by simp only[VA];omega)]
  exact ub fun s hs=>ha s (VU hs)
 rw[e]
 simp only[Vh,L4 _ m p hz,KU,VC]
theorem zN {S:Type} {f:S->Option (S⊕(S⊕S9))} (st:Nat->S) (v:Nat->S9) (hs:∀ j s,x[j+1]?=some s->f (st j)=if s.fTag=i2 then some (.inr (.inr (v j))) else some (.inl (st (j+1)))) (he:f (st (x.length - 1))=some (.inr (.inl (st (x.length - 1))))):
  (∀ k s,x[k+1]?=some s->s.fTag=i2->(∀ j s,j<k->x[j+1]?=some s->s.fTag≠i2)->bn f (st 0)=some (.inr (v k)))/\((∀ j s,x[j+1]?=some s->s.fTag≠i2)->bn f (st 0)=some (.inl (st (x.length - 1)))):=by
 have c:=sm (f:=f) (z:= .inl (st (x.length - 1))) st (x.length - 1) (fun j=>match x[j+1]? with|some s=>if s.fTag=i2 then some (.inr (v j)) else none|none=>none) (fun i hi L=>by
  obtain⟨s,C⟩:=dl (l:=x) (i:=i+1) oM
  simp only[C] at L
  rw[hs i s C]
  by_cases ht:s.fTag=i2
  ·rw[Wy ht] at L;cases L
  ·rw[WU ht]) (fun i a hi L=>by
  obtain⟨s,C⟩:=dl (l:=x) (i:=i+1) oM
  simp only[C] at L
  rw[hs i s C]
  by_cases ht:s.fTag=i2
  ·rw[Wy ht] at L⊢;cases L;rfl
  ·rw[WU ht] at L;cases L) he
 refine⟨fun k s hk ht hj=> ?_,fun hn=> ?_⟩
 ·rw[c,BD (k:=k) (a:= .inr (v k)) (by have:=b9 hk;omega) (fun j b=> ?_) (by simp only[hk];rw[Wy ht])]
  ·rfl
  ·cases hx:x[j+1]? with
   |none=>rfl
   |some s'=>simp only;rw[WU (hj j s' b hx)]
 ·rw[c,BC (fun j hj=> ?_)]
  ·rfl
  ·cases hx:x[j+1]? with
   |none=>rfl
   |some s'=>simp only;rw[WU (hn j s' hx)]
theorem IH (hs:fJ x=0) {n:Nt} {N:List Nt} (hP:SP tE (ya x) (n::N)):n.fSegment=((n.fSegment.toNat:Nat):Int):=by
 have hq:=QM (o_ hs).1 n (hP.1.mem_iff.2 oS)
 have:=hq.1
 omega
variable {b:ce} {z:S9}
theorem vg {m:ab} {i:Int} (h:IF b m i):8<=b.length/\jS m=0/\decide ((500000:Int)<(b.length:Int))=false/\(b.drop 8).length<=1000000:=by
 obtain⟨h1,h2⟩:=SM h.1
 have:=h.2
 exact⟨h1,h2,VY oM,by rw[Wd];omega⟩
theorem KV {x:List aa} {j:Nat} {s:aa} (hj:x[j+1]?=some s):(x.drop 1)[j]?=some s:=by rw[Wp,Nat.add_comm];exact hj
theorem UT (hb:b.length<=9223372036854775807) (hz:Mq b z):iw b=some z:=by
 have d0:decide ((0:Int)=0)=true:=rfl
 have E:decide ((10:Int)=0)=false:=rfl
 have u:decide ((10:Int)=10)=true:=rfl
 have v:decide ((0:Int)=10)=false:=rfl
 cases hz with
 |head h he=>
  unfold iw iv;dsimp only
  simp only[w_ b hb,h,Vh,VY he,VB,Vo,O0]
  try rfl
 |big h hl=>
  have d:decide ((500000:Int)<(b.length:Int))=true:=VX oM
  unfold iw iv;dsimp only
  simp only[w_ b hb,h,Vh,d0,VS,Vt,Vn,d,Vo,O0]
  try rfl
 | @syn m i q h hc=>
  obtain⟨h8,Z,f,hl⟩:=vg h
  obtain⟨hE,hN,hX⟩:=jd Z
  obtain⟨z,hz,e⟩:=E9 m hE hN _ hl hc
  simp only[xP] at e
  have h2:=h.2
  have a:=fW (l:=b) (k:=8) h8
  unfold iw iv;dsimp only
  simp only[w_ b hb,h.1,Vh,d0,VS,Vt,Vn,f,show((8:Nat):Int)=8 from rfl] at a⊢
  rw[a]
  simp only[Vh,hz,e,u,Vo,O0]
  rw[bk _ oM (by rw[Wd] at *;omega)]
  try rfl
 | @seg m i x p h hc hs=>
  obtain⟨h8,Z,f,hl⟩:=vg h
  obtain⟨hE,hN,hX⟩:=jd Z
  obtain⟨z,hz,e⟩:=E9 m hE hN _ hl hc
  simp only[xP,WU hs] at e
  have a:=fW (l:=b) (k:=8) h8
  unfold iw iv;dsimp only
  simp only[w_ b hb,h.1,Vh,d0,VS,Vt,Vn,f,show((8:Nat):Int)=8 from rfl] at a⊢
  rw[a]
  simp only[Vh,hz,e]
  by_cases t:fJ x=10
  ·simp only[t,u,Vo,O0,VW]
   rfl
  ·simp only[VY t,VY hs,Vn,VB,Vo,O0,WU t]
   rfl
 | @note m i x p n N h hc hs hW hP=>
  obtain⟨h8,Z,f,hl⟩:=vg h
  obtain⟨hE,hN,hX⟩:=jd Z
  obtain⟨z,hz,e⟩:=E9 m hE hN _ hl hc
  simp only[xP,Wy hs] at e
  obtain⟨c,e,hx,Y,h1,h2⟩:=e
  obtain⟨W,w1,w2,w3⟩:=yS x (vz hs)
  have o:W=n::N:=El I2 w2 hW (w3.symm.trans hP)
  subst o
  have a:=fW (l:=b) (k:=8) h8
  have dn:decide ((0:Int)<(((n::N).length:Nat):Int))=true:=VX (by simp only[Vk];omega)
  have F:aV (n::N) 0=some n:=rfl
  have J:=Hc Z h8 h.2 hc h1 h2 n.fSegment.toNat
  rw[<-IH hs hP] at J
  unfold iw iv;dsimp only
  simp only[w_ b hb,h.1,Vh,d0,VS,Vt,Vn,f,show((8:Nat):Int)=8 from rfl] at a⊢
  rw[a]
  simp only[Vh,hz,e,v,d0,VS,Vn,Vt,hx,w1,dn,Vo,F,J,O0]
  try rfl
 | @nil m i p h hc=>
  have hs:fJ ([]:List aa)=0:=rfl
  obtain⟨h8,Z,f,hl⟩:=vg h
  obtain⟨hE,hN,hX⟩:=jd Z
  obtain⟨z,hz,e⟩:=E9 m hE hN _ hl hc
  simp only[xP,Wy hs] at e
  obtain⟨c,e,hx,Y,h1,h2⟩:=e
  obtain⟨W,w1,w2,w3⟩:=yS [] (vz hs)
  have o:W=[]:=Vx.1 (by rw[<-w3.1.length_eq];rfl)
  subst o
  have a:=fW (l:=b) (k:=8) h8
  have dn:decide ((0:Int)<(((([]:List Nt)).length:Nat):Int))=false:=rfl
  have de:decide (((([]:List aa).length:Nat):Int)=0)=true:=rfl
  unfold iw iv;dsimp only
  simp only[w_ b hb,h.1,Vh,d0,VS,Vt,Vn,f,show((8:Nat):Int)=8 from rfl] at a⊢
  rw[a]
  simp only[Vh,hz,e,v,d0,VS,Vn,Vt,hx,w1,dn,de,Vo,O0]
  try rfl
 | @ihd m i x p k s h hc hs hq hk ht hj=>
  obtain⟨h8,Z,f,hl⟩:=vg h
  obtain⟨hE,hN,hX⟩:=jd Z
  obtain⟨z,hz,e⟩:=E9 m hE hN _ hl hc
  simp only[xP,Wy hs] at e
  obtain⟨c,e,hx,Y,h1,h2⟩:=e
  obtain⟨W,w1,w2,w3⟩:=yS x (vz hs)
  have o:W=[]:=Vx.1 (by rw[<-w3.1.length_eq,hq];rfl)
  subst o
  have D:=(o_ hs).1
  have G:=b9 hk
  have a:=fW (l:=b) (k:=8) h8
  have C:=fW (l:=x) (k:=1) oM
  have dn:decide ((0:Int)<(((([]:List Nt)).length:Nat):Int))=false:=rfl
  have de:decide (((x.length:Nat):Int)=0)=false:=VY oM
  unfold iw iv;dsimp only
  simp only[w_ b hb,h.1,Vh,d0,VS,Vt,Vn,f,show((8:Nat):Int)=8 from rfl,show((1:Nat):Int)=1 from rfl] at a C⊢
  rw[a]
  simp only[Vh,hz,e,v,d0,VS,Vn,Vt,hx,w1,dn,de]
  rw[C]
  simp only[Vh]
  refine dO ((zN (x:=x) (fun j=>(OZ,IV,(j:Int))) (fun j=>AY (Q9 m p x (j+1)) 3) (fun j s r=> ?_) ?_).1 k s hk ht hj) rfl
  ·have w:=b9 r
   have A:decide ((j:Int)<((x.drop 1).length:Int))=true:=VX (by rw[Wd];omega)
   have J:=Hc Z h8 h.2 hc h1 h2 (j+1)
   simp only[A,Vo,am,KV r,Vh,aW j oM,J,O0]
   by_cases g:s.fTag=i2
   ·rw[Wy g,VX (show s.fTag=[73,72,68] from g)];rfl
   ·rw[WU g,VY (show¬ s.fTag=[73,72,68] from g)];rfl
  ·have A:decide (((x.length - 1:Nat):Int)<((x.drop 1).length:Int))=false:=VY (by rw[Wd];omega)
   simp only[A,Vn];rfl
 | @fin m i y p h hc hs hq hj B=>
  obtain⟨h8,Z,f,hl⟩:=vg h
  obtain⟨hE,hN,hX⟩:=jd Z
  obtain⟨z,hz,e⟩:=E9 m hE hN _ hl hc
  simp only[xP,Wy hs] at e
  obtain⟨c,e,hx,Y,h1,h2⟩:=e
  obtain⟨W,w1,w2,w3⟩:=yS (uT y) (vz hs)
  have o:W=[]:=Vx.1 (by rw[<-w3.1.length_eq,hq];rfl)
  subst o
  have D:=(o_ hs).1
  have M:=yH y
  have a:=fW (l:=b) (k:=8) h8
  have C:=fW (l:=uT y) (k:=1) oM
  have dn:decide ((0:Int)<(((([]:List Nt)).length:Nat):Int))=false:=rfl
  have de:decide ((((uT y).length:Nat):Int)=0)=false:=VY oM
  unfold iw iv;dsimp only
  simp only[w_ b hb,h.1,Vh,d0,VS,Vt,Vn,f,show((8:Nat):Int)=8 from rfl,show((1:Nat):Int)=1 from rfl] at a C⊢
  rw[a]
  simp only[Vh,hz,e,v,d0,VS,Vn,Vt,hx,w1,dn,de]
  rw[C]
  simp only[Vh]
  refine dO ((zN (x:=uT y) (fun j=>(OZ,IV,(j:Int))) (fun j=>AY (Q9 m p (uT y) (j+1)) 3) (fun j s r=> ?_) ?_).2 hj) ?_
  ·have w:=b9 r
   have A:decide ((j:Int)<(((uT y).drop 1).length:Int))=true:=VX (by rw[Wd];omega)
   have J:=Hc Z h8 h.2 hc h1 h2 (j+1)
   simp only[A,Vo,am,KV r,Vh,aW j oM,J,O0]
   by_cases g:s.fTag=i2
   ·rw[Wy g,VX (show s.fTag=[73,72,68] from g)];rfl
   ·rw[WU g,VY (show¬ s.fTag=[73,72,68] from g)];rfl
  ·have A:decide ((((uT y).length - 1:Nat):Int)<(((uT y).drop 1).length:Int))=false:=VY (by rw[Wd];omega)
   simp only[A,Vn];rfl
  ·simp only[bZ,TP B hs,UN y (JZ B hs).1,Vh,Y]
   by_cases h0:Qb y=0
   ·rw[Wy h0,h0];rfl
   ·rw[WU h0,VY h0]
    simp only[VB,Vo,O0]
    rfl
theorem UU (hb:b.length<=9223372036854775807) (hz:Mq b z):bO b=some z:=by
 have d0:decide ((0:Int)=0)=true:=rfl
 have E:decide ((10:Int)=0)=false:=rfl
 have u:decide ((10:Int)=10)=true:=rfl
 have v:decide ((0:Int)=10)=false:=rfl
 cases hz with
 |head h he=>
  unfold bO ix;dsimp only
  simp only[xa b hb,h,Vh,VY he,VB,Vo]
  try rfl
 |big h hl=>
  have d:decide ((500000:Int)<(b.length:Int))=true:=VX oM
  unfold bO ix;dsimp only
  simp only[xa b hb,h,Vh,d0,VS,Vt,Vn,d,Vo]
  try rfl
 | @syn m i q h hc=>
  obtain⟨h8,Z,f,hl⟩:=vg h
  obtain⟨hE,hN,hX⟩:=jd Z
  have hz:=E_ m hX _ hl hc
  have h2:=h.2
  have a:=fW (l:=b) (k:=8) h8
  unfold bO ix;dsimp only
  simp only[xa b hb,h.1,Vh,d0,VS,Vt,Vn,f,show((8:Nat):Int)=8 from rfl] at a⊢
  rw[a]
  simp only[Vh,hz,CM,E,u,VB,Vo]
  rw[bk _ oM (by rw[Wd] at *;omega)]
  try rfl
 | @seg m i x p h hc hs=>
  obtain⟨h8,Z,f,hl⟩:=vg h
  obtain⟨hE,hN,hX⟩:=jd Z
  have hz:=E_ m hX _ hl hc
  have a:=fW (l:=b) (k:=8) h8
  unfold bO ix;dsimp only
  simp only[xa b hb,h.1,Vh,d0,VS,Vt,Vn,f,show((8:Nat):Int)=8 from rfl] at a⊢
  rw[a]
  simp only[Vh,hz,CM,WU hs,VY hs,VB,Vo]
  by_cases t:fJ x=10
  ·simp only[t,u,Vo,VW]
   rfl
  ·simp only[VY t,Vn,WU t]
   rfl
 | @note m i x p n N h hc hs hW hP=>
  obtain⟨h8,Z,f,hl⟩:=vg h
  obtain⟨hE,hN,hX⟩:=jd Z
  have hz:=E_ m hX _ hl hc
  obtain⟨W,w1,w2,w3⟩:=Cd x (vz hs)
  have o:W=n::N:=El I2 w2 hW (w3.symm.trans hP)
  subst o
  have ha:=Wf List.length (Cq Z hc)
  have ht:=zM m p x n.fSegment.toNat
  have a:=fW (l:=b) (k:=8) h8
  have dn:decide ((0:Int)<(((n::N).length:Nat):Int))=true:=VX (by simp only[Vk];omega)
  have F:aV (n::N) 0=some n:=rfl
  have J:=Hd (m:=m) hs p n.fSegment.toNat
  rw[<-IH hs hP] at J
  unfold bO ix;dsimp only
  simp only[xa b hb,h.1,Vh,d0,VS,Vt,Vn,f,show((8:Nat):Int)=8 from rfl] at a⊢
  rw[a]
  simp only[Vh,hz,CM,Wy hs,d0,VS,Vt,Vn,w1,dn,Vo,F,J]
  rw[bk _ oM oM,Int.add_comm 8]
  try rfl
 | @nil m i p h hc=>
  have hs:fJ ([]:List aa)=0:=rfl
  obtain⟨h8,Z,f,hl⟩:=vg h
  obtain⟨hE,hN,hX⟩:=jd Z
  have hz:=E_ m hX _ hl hc
  obtain⟨W,w1,w2,w3⟩:=Cd [] (vz hs)
  have o:W=[]:=Vx.1 (by rw[<-w3.1.length_eq];rfl)
  subst o
  have c:CM (b.drop 8) (.inr (([]:List aa),p))=([],p,0,0):=rfl
  have a:=fW (l:=b) (k:=8) h8
  have dn:decide ((0:Int)<(((([]:List Nt)).length:Nat):Int))=false:=rfl
  have de:decide (((([]:List aa).length:Nat):Int)=0)=true:=rfl
  unfold bO ix;dsimp only
  simp only[xa b hb,h.1,Vh,d0,VS,Vt,Vn,f,show((8:Nat):Int)=8 from rfl] at a⊢
  rw[a]
  simp only[Vh,hz,c,d0,VS,Vn,Vt,w1,dn,de,Vo]
  try rfl
 | @ihd m i x p k s h hc hs hq hk ht hj=>
  obtain⟨h8,Z,f,hl⟩:=vg h
  obtain⟨hE,hN,hX⟩:=jd Z
  have hz:=E_ m hX _ hl hc
  obtain⟨W,w1,w2,w3⟩:=Cd x (vz hs)
  have o:W=[]:=Vx.1 (by rw[<-w3.1.length_eq,hq];rfl)
  subst o
  have D:=(o_ hs).1
  have G:=b9 hk
  have ha:=Wf List.length (Cq Z hc)
  have a:=fW (l:=b) (k:=8) h8
  have dn:decide ((0:Int)<(((([]:List Nt)).length:Nat):Int))=false:=rfl
  have de:decide (((x.length:Nat):Int)=0)=false:=VY oM
  unfold bO ix;dsimp only
  simp only[xa b hb,h.1,Vh,d0,VS,Vt,Vn,f,show((8:Nat):Int)=8 from rfl] at a⊢
  rw[a]
  simp only[Vh,hz,CM,Wy hs,d0,VS,Vn,Vt,w1,dn,de]
  refine dO ((zN (x:=x) (fun j=>(OZ,IV,((j+1:Nat):Int))) (fun j=>AY (Q9 m p x (j+1)) 3) (fun j s r=> ?_) ?_).1 k s hk ht hj) rfl
  ·have w:=b9 r
   have J:=Hd (m:=m) hs p (j+1)
   have ht:=zM m p x (j+1)
   simp only[aX w,Vo,am,r,Vh,aW (j+1) oM,J]
   by_cases g:s.fTag=i2
   ·rw[Wy g,VX (show s.fTag=[73,72,68] from g),Vo,bk _ oM oM,Int.add_comm 8];rfl
   ·rw[WU g,VY (show¬ s.fTag=[73,72,68] from g)];rfl
  ·have A:decide (((x.length - 1+1:Nat):Int)<(x.length:Int))=false:=VY oM
   simp only[A,Vn];rfl
 | @fin m i y p h hc hs hq hj B=>
  obtain⟨h8,Z,f,hl⟩:=vg h
  obtain⟨hE,hN,hX⟩:=jd Z
  have hz:=E_ m hX _ hl hc
  obtain⟨W,w1,w2,w3⟩:=Cd (uT y) (vz hs)
  have o:W=[]:=Vx.1 (by rw[<-w3.1.length_eq,hq];rfl)
  subst o
  have D:=(o_ hs).1
  have M:=yH y
  have ha:=Wf List.length (Cq Z hc)
  have a:=fW (l:=b) (k:=8) h8
  have dn:decide ((0:Int)<(((([]:List Nt)).length:Nat):Int))=false:=rfl
  have de:decide ((((uT y).length:Nat):Int)=0)=false:=VY oM
  unfold bO ix;dsimp only
  simp only[xa b hb,h.1,Vh,d0,VS,Vt,Vn,f,show((8:Nat):Int)=8 from rfl] at a⊢
  rw[a]
  simp only[Vh,hz,CM,Wy hs,d0,VS,Vn,Vt,w1,dn,de]
  refine dO ((zN (x:=uT y) (fun j=>(OZ,IV,((j+1:Nat):Int))) (fun j=>AY (Q9 m p (uT y) (j+1)) 3) (fun j s r=> ?_) ?_).2 hj) ?_
  ·have w:=b9 r
   have J:=Hd (m:=m) hs p (j+1)
   have ht:=zM m p (uT y) (j+1)
   simp only[aX w,Vo,am,r,Vh,aW (j+1) oM,J]
   by_cases g:s.fTag=i2
   ·rw[Wy g,VX (show s.fTag=[73,72,68] from g),Vo,bk _ oM oM,Int.add_comm 8];rfl
   ·rw[WU g,VY (show¬ s.fTag=[73,72,68] from g)];rfl
  ·have A:decide ((((uT y).length - 1+1:Nat):Int)<((uT y).length:Int))=false:=VY oM
   simp only[A,Vn];rfl
  ·simp only[bZ,TQ B hs,UO y (JZ B hs).1,Vh]
   by_cases h0:Qb y=0
   ·rw[Wy h0,h0];rfl
   ·rw[WU h0,VY h0];rfl
variable {y:Ix}
theorem OA:kD=some true:=by
 unfold kD wL;dsimp only
 have h:kE ⟨UInt8.ofNat (Int.toNat 42),UInt8.ofNat (Int.toNat 58),UInt8.ofNat (Int.toNat 94),UInt8.ofNat (Int.toNat 63),UInt8.ofNat (Int.toNat 126)⟩=some ([77,82,75,42,58,94,63,126],0):=by
  unfold kE
  rw[KR]
  rfl
 rw[h]
 rfl
theorem Qq (l:List Ms) (hl:l.length<=1048576) (h:∀ m∈l,Oe m.fSegments):gA l l=some true:=by
 unfold gA n0;dsimp only
 have d:decide ((l.length:Int)=(l.length:Int))=true:=by simp
 rw[d]
 simp only[Vt,Vn]
 refine(xu l (fun _=>true) false (fun i e he=> ?_) (by simp only[aB,Vn];rfl)).trans ?_
 ·have hi:=b9 he
  simp only[aX hi,Vo,am,he,Vh,aW i oM,VS,Vt,bx,Xn,Wm,Vn,ER e.fSegments (h e (Vq he)).1 (h e (Vq he)).2,VW]
 ·rw[Wy oS]
theorem Ek (x:Ix) (hl:x.fGroups.length<=1048576) (h:∀ g∈x.fGroups,g.fMessages.length<=1048576/\∀ m∈g.fMessages,Oe m.fSegments):bP x x=some true:=by
 unfold bP n1;dsimp only
 have d:decide ((x.fGroups.length:Int)=(x.fGroups.length:Int))=true:=by simp
 simp only[VS,Vt,Xn,bx,Vn,d]
 refine(xu x.fGroups (fun _=>true) false (fun i e he=> ?_) (by simp only[aB,Vn];rfl)).trans ?_
 ·have hi:=b9 he
  have Z:=h e (Vq he)
  simp only[aX hi,Vo,am,he,Vh,aW i oM,VS,Vt,bx,Xn,Wm,Vn,Qq e.fMessages Z.1 Z.2,VW]
 ·rw[Wy oS]
theorem OB {g:Gp} (L:g∈y.fGroups) {m:Ms} (Z:m∈g.fMessages) {s:aa} (hs:s∈m.fSegments):s∈uT y:=by
 unfold uT
 refine Wx _ (Wk _ (List.mem_flatMap.2 ⟨g,L, ?_⟩))
 unfold OX
 refine Wx _ (Wk _ (List.mem_flatMap.2 ⟨m,Z, ?_⟩))
 unfold Q4
 exact Wx _ (Wk _ hs)
theorem L7 (hE:Rc y) (hs:fJ (uT y)=0):bP y y=some true:=by
 obtain⟨r5,hn⟩:=JZ hE hs
 obtain⟨_,ha⟩:=o_ hs
 refine Ek y r5.len fun g L=>⟨(r5.grp g L).len,fun m Z=>⟨Wz ((r5.grp g L).msg m Z).len oM,fun s d=>Ss (ha s (OB L Z d))⟩⟩
theorem n4:bP OZ OZ=some true:=Ek OZ (by simp[OZ]) (by simp[OZ])
theorem Qr {b:ce} {z:S9} (hz:Mq b z):bP z.1 z.1=some true:=by
 cases hz with
 |head=>exact n4
 |big=>exact n4
 |syn=>exact n4
 |seg=>exact n4
 |note=>exact n4
 |nil=>exact n4
 |ihd=>exact n4
 | @fin m i y p h hc hs hq hj hE=>
  by_cases h0:Qb y=0
  ·rw[Wy h0];exact L7 hE hs
  ·rw[WU h0];exact n4
theorem L8 (b:ce) (hb:b.length<=9223372036854775807):eu b=some true:=by
 obtain⟨z,hz⟩:=Oz b
 unfold eu wM;dsimp only
 simp only[UT hb hz,UU hb hz,Vh,Qr hz,OA,aO,VS,W7]
