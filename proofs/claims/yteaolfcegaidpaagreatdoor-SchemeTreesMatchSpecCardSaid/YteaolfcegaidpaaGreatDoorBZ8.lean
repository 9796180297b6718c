/-
  Laws on the way to the theorem.
-/
import Derived.Test.YteaolfcegaidpaaGreatDoorBZ7
namespace Go.Proofs.YteaolfcegaidpaaGreatDoor
open Go.RowKit
set_option linter.unusedSimpArgs false
set_option linter.unusedVariables false
variable {l:List Df}
theorem Er (s:List UInt8) (k:Int) (h0:s≠[]) (hs:s.length<=1000):n6 s k=some (tx k s):=by
 unfold n6 hZ;dsimp only
 unfold tx
 by_cases k2:k=2
 ·subst k2
  rw[show decide ((2:Int)=2)=true from rfl]
  simp only[SZ]
  refine(py s lx false (fun i e J=> ?_) ?_).trans ?_
  ·have hi:=bM J
   have a2:((decide ((e.toNat:Int)<65)||decide (90<(e.toNat:Int)))&&(decide ((e.toNat:Int)<97)||decide (122<(e.toNat:Int)))&& !decide ((e.toNat:Int)=32))= !lx e:=by
    unfold lx;rw[Ti];simp;omega
   simp only[bg hi,SZ,ap,J,SQ,bR,aY,bQ i oM,a2]
   cases lx e<;>rfl
  ·simp only[ao,S2];rfl
  ·cases s.all lx<;>rfl
 rw[TW k2]
 by_cases k3:k=3
 ·subst k3
  rw[zI s oM,jE h0]
  simp
 rw[TW k3]
 by_cases k4:k=4
 ·subst k4
  obtain⟨d,e,h1,h2⟩:=IG s oM
  rw[h1];simp[h2]
 rw[TW k4]
 by_cases k5:k=5
 ·subst k5
  obtain⟨d,e,h1,h2⟩:=KG s oM
  rw[h1];simp[h2]
 rw[TW k5]
 simp[k2,k3,k4,k5]
theorem Pg (d:aM):mb d=some (if 50<d.fCodes.length then 2 else qP (yd d) none d.fCodes):=by
 unfold mb nm;dsimp only
 by_cases j:50<d.fCodes.length
 ·rw[Ub j,show decide (50<((d.fCodes.length:Nat):Int))=true by simp;omega];rfl
 ·rw[Ul j,show decide (50<((d.fCodes.length:Nat):Int))=false by simp;omega]
  simp only[S2]
  refine(lw d.fCodes (yd d) (fun n=>n) (fun i e J=> ?_) ?_).trans ?_
  ·have hi:=bM J
   have hp:=Im J oM
   simp only[bg hi,SZ]
   rw[show cm d.fCodes (i:Int)=some e by rw[ap];exact J]
   simp only[SQ]
   rw[hp]
   simp only[SQ,CY,bR,bQ i oM]
   unfold yd Nw
   by_cases c1:1<=e.length/\e.length<=20
   ·have b1:(decide (((e.length:Nat):Int)<1)||decide (20<((e.length:Nat):Int)))=false:=by simp;omega
    have A:e≠[]:=fun h=>by rw[h] at c1;simp at c1
    rw[b1,F_ e _ _ oM,Er e d.fType A oM,TG c1]
    have a:e.all (qR (UInt8.ofNat (Int.toNat 33)) (UInt8.ofNat (Int.toNat 126)))=e.all (qR 33 126):=rfl
    rw[a]
    simp only[DY,S2,SQ,S8]
    cases ha:e.all (qR 33 126) with
    |false=>simp only[Tw,SZ,SQ,UL];rfl
    |true=>
     simp only[S7,S2,SQ,UY]
     by_cases z:d.fMin<=(e.length:Int)/\(e.length:Int)<=d.fMax
     ·have b2:(decide (((e.length:Nat):Int)<d.fMin)||decide (d.fMax<((e.length:Nat):Int)))=false:=by simp;omega
      rw[b2,TG z]
      simp only[S2,SQ,S8]
      cases tx d.fType e with
      |false=>rfl
      |true=>
       simp only[S7,S2,T6]
       cases El (oZ d.fCodes i) e<;>rfl
     ·have b2:(decide (((e.length:Nat):Int)<d.fMin)||decide (d.fMax<((e.length:Nat):Int)))=true:=by
       simp only[Tn,SU];omega
      rw[b2,TW z];rfl
   ·have b1:(decide (((e.length:Nat):Int)<1)||decide (20<((e.length:Nat):Int)))=true:=by
     simp only[Tn,SU];omega
    rw[b1,TW c1];rfl
  ·simp only[ao,S2];rfl
  ·split
   ·rename_i h;rw[h]
   ·rfl
theorem QS (d:aM):mU d=some (yZ d):=by
 unfold mU xy;dsimp only
 simp only[CY,SQ,bR,aY,Pg]
 unfold yZ
 by_cases c1:1<=d.fType/\d.fType<=5
 ·rw[show(decide (d.fType<1)||decide (5<d.fType))=false by simp;omega,Ul (not_not_intro c1)]
  simp only[S2]
  by_cases z:¬ (1<=d.fMin/\d.fMin<=d.fMax)\/1000<d.fMax
  ·rw[Ub z,show(decide (d.fMin<1)||decide (d.fMax<d.fMin)||decide (1000<d.fMax))=true by simp only[Tn,SU];omega];rfl
  ·rw[Ul z,show(decide (d.fMin<1)||decide (d.fMax<d.fMin)||decide (1000<d.fMax))=false by simp only[TF,Ts];omega]
   simp only[S2]
   by_cases u:d.fType=5/\(8<d.fMin\/d.fMax<8)
   ·rw[Ub u,show(decide (d.fType=5)&&(decide ((8:Int)<d.fMin)||decide (d.fMax<8)))=true by simp[u.1];exact u.2];rfl
   ·rw[Ul u,show(decide (d.fType=5)&&(decide ((8:Int)<d.fMin)||decide (d.fMax<8)))=false by simp only[TU,Ts,TF];omega]
    rfl
 ·rw[show(decide (d.fType<1)||decide (5<d.fType))=true by simp only[Tn,SU];omega,Ub c1];rfl
theorem QT (e:ay):kg e=some (Ci e):=by
 unfold kg xz;dsimp only
 simp only[CY,SQ,Ij]
 unfold Ci
 by_cases o:1<=e.fMost/\e.fMost<=20
 ·rw[show(decide (e.fMost<1)||decide (20<e.fMost))=false by simp;omega]
  simp only[S2,o,and_self,not_true_eq_false,Tv]
  by_cases d2:e.fParts=[]
  ·simp only[d2,T6];rfl
  ·simp only[d2,Tv,Um,S2]
   by_cases f:20<e.fParts.length
   ·simp only[f,T6]
    rw[show decide (20<((e.fParts.length:Nat):Int))=true by simp;omega];rfl
   ·simp only[f,Tv]
    rw[show decide (20<((e.fParts.length:Nat):Int))=false by simp;omega]
    simp only[S2]
    refine(lw e.fParts (fun _ p=>yZ p) (fun n=>n) (fun i e J=> ?_) ?_).trans ?_
    ·have h5:=bM J
     simp only[bg h5,SZ,ap,J,SQ,QS,bQ i oM]
     by_cases hz:yZ e=0
     ·simp only[hz,T6,Ue,S7,S2]
     ·simp only[hz,Tv,Um,Tw,SZ];rfl
    ·simp only[ao,S2];rfl
    ·split
     ·rename_i h;rw[h]
     ·rfl
 ·rw[show(decide (e.fMost<1)||decide (20<e.fMost))=true by simp only[Tn,SU];omega]
  simp only[o,not_false_eq_true,T6];rfl
theorem Lx {i:Nat} {e:Df} (J:l[i]?=some e) (hl:l.length<=1000):
  hY (decide (0<(i:Int))) ((cm l (IntKind.i64.wrap ((i:Int) - 1))).bind fun F=>some (Op.bytesLess e.fTag F.fTag||decide (e.fTag=F.fTag)))=some (El ((oZ l i).map (·.fTag)) e.fTag):=by
 have:=F3 J hl
 rw[ap,J] at this
 exact this
theorem QU (l:List Df) (hl:∀ d∈l,d.fTag.length<=MX):mV l=some (vc l):=by
 unfold mV xB;dsimp only
 unfold vc
 by_cases j:100<l.length
 ·rw[Ub j,show decide (100<((l.length:Nat):Int))=true by simp;omega];rfl
 ·rw[Ul j,show decide (100<((l.length:Nat):Int))=false by simp;omega]
  simp only[S2]
  refine(lw l Em (fun n=>n) (fun i e J=> ?_) ?_).trans ?_
  ·have h5:=bM J
   have Z:=ST J
   have hp:=Lx J oM
   simp only[bg h5,SZ,ap l,J,SQ,J9 _ (hl e Z),bQ i oM]
   rw[hp]
   unfold Em
   cases CG e.fTag with
   |false=>rfl
   |true=>
    simp only[S7,S2,Uc,Tv,SQ]
    cases El ((oZ l i).map (·.fTag)) e.fTag with
    |true=>rfl
    |false=>
     simp only[S2,Tj,Tv]
     unfold Ju
     by_cases c:50<e.fElements.length
     ·rw[Ub c,show decide (50<((e.fElements.length:Nat):Int))=true by simp;omega];rfl
     ·rw[Ul c,show decide (50<((e.fElements.length:Nat):Int))=false by simp;omega]
      simp only[S2]
      refine(lw e.fElements (fun _ e=>Ci e) (fun n=> .inr (.inr n)) (fun i e J=> ?_) ?_).trans ?_
      ·have h5:=bM J
       simp only[bg h5,SZ,ap,J,SQ,QT,bQ i oM]
       by_cases hz:Ci e=0
       ·simp only[hz,T6,Ue,S7,S2]
       ·simp only[hz,Tv,Um,Tw,SZ];rfl
      ·simp only[ao,S2];rfl
      ·rfl
  ·simp only[ao,S2];rfl
  ·split
   ·rename_i h;rw[h]
   ·rfl
theorem F4 {α:Type} {st:Option α->α->Int}:∀ {l:List α} {p:Option α},qP st p l=0->∀ (i:Nat) (a b:α),l[i]?=some a->l[i+1]?=some b->st (some a) b=0
 |[],_,_,i,a,b,h,_=>by simp at h
 |x::l,p,h,i,a,b,ha,hb=>by
  unfold qP at h
  by_cases hs:st p x=0
  ·rw[Ub hs] at h
   cases i with
   |zero=>
    simp at ha hb
    subst ha
    cases l with
    |nil=>simp at hb
    |cons y l=>
     simp at hb;subst hb
     unfold qP at h
     by_cases h2:st (some x) y=0
     ·exact h2
     ·rw[Ul h2] at h;exact absurd h h2
   |succ i=>exact F4 h i a b (by simpa using ha) (by simpa using hb)
  ·rw[Ul hs] at h;exact absurd h hs
theorem F5 (h:vc l=0):AA l:=by
 unfold vc at h
 split at h
 ·cases h
 ·intro i a b ha hb
  simp only[Tk,Option.map_eq_some_iff] at ha hb
  obtain⟨x,hx,rfl⟩:=ha
  obtain⟨y,hy,rfl⟩:=hb
  have:=F4 h i x y hx hy
  unfold Em at this
  split at this
  ·cases this
  ·split at this
   ·cases this
   ·rename_i _ c
    simp only[El,TL,SG,Tn,SU,not_or,Uk] at c
    rcases P1 y.fTag x.fTag with h|h|h
    ·exact absurd h c.2
    ·rw[c.1] at h;cases h
    ·exact h
theorem SB {a b:Nat} (ha:a<=1000) (hb:b<=1000):IntKind.i64.wrap (IntKind.u64.wrap (IntKind.i64.wrap ((a:Int)+(b:Int)))/2)=(((a+b)/2:Nat):Int):=by
 rw[bp ((a:Int)+(b:Int)) oM oM,He oM oM,bp _ oM oM]
 omega
theorem Nz (l:List Df) (t:List UInt8) (hr:AA l) (hl:l.length<=1000) (A:FuncId) (z:List DV) (h2:∀ a0 M r,eW a0 M=some r->aa Tryz.prog A ([.agg (aA a0),.str M]++z) (.int .i64 r)):
  ∃ n,aR l t A z eW h2=some (n,aK l t)/\(aK l t=true->∃ d,cm l n=some d/\d∈l/\d.fTag=t):=by
 have o:∀ e:Df,eW e t=some (Lib.compareBytes e.fTag t):=fun e=>by
  unfold eW hZ;dsimp only
  rfl
 have h9:∀ {i j:Nat} {a b:Df},i<j->l[i]?=some a->l[j]?=some b->Op.bytesLess a.fTag b.fTag=true:=fun{i j a b} V ha hb=>by
  exact hr.lt V (by rw[Tk,ha];rfl) (by rw[Tk,hb];rfl)
 unfold aR hZ;dsimp only
 have key:=lu (X:=Nat×Nat) (R:=Int×Bool) (C:=fun c=>∃ n,c=(n,aK l t)/\(aK l t=true->∃ d,cm l n=some d/\d∈l/\d.fTag=t))
  (f:=fun s:Int×Int=>bif decide (s.fst<s.snd) then iZ (IE IntKind.u64 1) ((cm l (IntKind.i64.wrap (IntKind.u64.wrap (IntKind.i64.wrap (s.fst+s.snd))/2))).bind fun e=>(eW e t).bind fun x=>bif decide (x<0) then some (Sum.inl (IntKind.i64.wrap (IntKind.i64.wrap (IntKind.u64.wrap (IntKind.i64.wrap (s.fst+s.snd))/2)+1),s.snd)) else some (Sum.inl (s.fst,IntKind.i64.wrap (IntKind.u64.wrap (IntKind.i64.wrap (s.fst+s.snd))/2)))) else cb (some (Sum.inl (s.fst,s.snd))))
  (k:=bX fun s:Int×Int=>(hY (decide (s.fst<(l.length:Int))) ((cm l s.fst).bind fun e=>(eW e t).bind fun x=>some (decide (x=0)))).bind fun v=>some (s.fst,v))
  (fun s=>((s.1:Int),(s.2:Int))) (fun s=>s.2 - s.1) (fun s=>s.1<=s.2/\s.2<=l.length/\(∀ i e,i<s.1->l[i]?=some e->Op.bytesLess e.fTag t=true)/\∀ i e,s.2<=i->l[i]?=some e->Op.bytesLess e.fTag t=false) (by
   rintro⟨a,b⟩ ⟨h1,h2,E,h4⟩
   simp only at h1 h2 E h4⊢
   rcases Th a b with q|q
   ·have Z:(a+b)/2<l.length:=by omega
    obtain⟨e,J⟩:=dY Z
    simp only[SB (a:=a) (b:=b) oM oM,ap,J,SQ,o,bg q,SZ,bQ ((a+b)/2) oM]
    rw[eq (pR.2 ⟨by omega,by simp[IntKind.bits]⟩)]
    by_cases hc:Op.bytesLess e.fTag t=true
    ·rw[TG (PE.2 hc)]
     refine .inl ⟨((a+b)/2+1,b),⟨by omega,h2,fun i x hi hx=> ?_,h4⟩,by simp only;omega,rfl⟩
     rcases Th i ((a+b)/2) with h|h
     ·exact wL (h9 h hx J) hc
     ·have:i=(a+b)/2:=by simp only at hi;omega
      subst this
      rw[J] at hx;simp only[SN] at hx;subst hx;exact hc
    ·rw[TW (fun h=>hc (PE.1 h))]
     refine .inl ⟨(a,(a+b)/2),⟨by omega,by omega,E,fun i x hi hx=> ?_⟩,by simp only;omega,rfl⟩
     cases hv:Op.bytesLess x.fTag t with
     |false=>rfl
     |true=>
      exfalso
      simp only at hi
      rcases Th ((a+b)/2) i with h|h
      ·exact hc (wL (h9 h J hx) hv)
      ·have:i=(a+b)/2:=by omega
       subst this
       rw[J] at hx;simp only[SN] at hx;subst hx;exact hc hv
   ·have m:a=b:=by omega
    subst m
    have hd:decide ((a:Int)<(a:Int))=false:=by simp
    refine .inr ⟨.inl ((a:Int),(a:Int)),((a:Int),aK l t),by rw[hd];rfl, ?_,(a:Int),rfl, ?_⟩
    ·simp only[bX]
     rcases Th a l.length with ha|ha
     ·obtain⟨e,J⟩:=dY ha
      simp only[bg ha,hY,SZ,ap,J,SQ,o]
      have:decide (Lib.compareBytes e.fTag t=0)=aK l t:=by
       rw[Ti,SU,Ri]
       unfold aK
       rw[Uu]
       constructor
       ·intro h;exact⟨e,ST J,by simpa using h⟩
       ·rintro⟨x,hx,g⟩
        simp only[SU] at g
        obtain⟨j,hj⟩:=UJ hx
        rcases Nat.lt_trichotomy j a with h|h|h
        ·have:=E j x h hj
         rw[g,lB] at this;cases this
        ·subst h;rw[J] at hj;simp only[SN] at hj;rw[hj];exact g
        ·have:=h9 h J hj
         rw[g] at this
         have k:=h4 a e (S0 _) J
         rw[k] at this;cases this
      rw[this]
     ·have G:decide ((a:Int)<((l.length:Nat):Int))=false:=by simp;omega
      rw[G]
      have:aK l t=false:=by
       unfold aK
       rw[List.any_eq_false]
       intro x hx g
       simp only[SU] at g
       obtain⟨j,hj⟩:=UJ hx
       have:=E j x (by have:=bM hj;omega) hj
       rw[g,lB] at this;cases this
      rw[this];rfl
    ·intro Y
     unfold aK at Y
     rw[Uu] at Y
     obtain⟨x,hx,g⟩:=Y
     simp only[SU] at g
     obtain⟨j,hj⟩:=UJ hx
     have p:a<=j:=by
      rcases Th j a with h|h
      ·have:=E j x h hj
       rw[g,lB] at this;cases this
      ·exact h
     obtain⟨d,r3⟩:=dY (l:=l) (i:=a) (by have:=bM hj;omega)
     refine⟨d,by rw[ap];exact r3,ST r3, ?_⟩
     rcases Th a j with h|h
     ·have k1:=h9 h r3 hj
      rw[g] at k1
      have k2:=h4 a d (S0 _) r3
      rw[k1] at k2;cases k2
     ·have:j=a:=by omega
      subst this
      rw[hj] at r3;simp only[SN] at r3;rw[<-r3];exact g) (0,l.length) ⟨To _,S0 _,fun i e hi=>by simp at hi,fun i e hi J=>by
      have:=bM J;simp only at hi;omega⟩
 obtain⟨c,hc,n,rfl,hn⟩:=key
 exact⟨n,hc,hn⟩
theorem Ir (s:aj) (t:List UInt8) (hr:AA s.fDefs) (hl:s.fDefs.length<=1000):∃ d,kY s t=some (d,aK s.fDefs t)/\(aK s.fDefs t=true->d∈s.fDefs/\d.fTag=t):=by
 unfold kY nm;dsimp only
 obtain⟨n,hn,hd⟩:=Nz s.fDefs t hr hl 126 [] (by first|exact(fun a0 M r h=>l_ a0 M r h)|exact(fun a0 M r h=>by simpa using l_ a0 M r h))
 rw[hn]
 simp only[SQ]
 cases hv:aK s.fDefs t with
 |false=>exact⟨_,rfl,fun h=>by cases h⟩
 |true=>
  obtain⟨d,hd,k1,k2⟩:=hd hv
  exact⟨d,by rw[hd];rfl,fun _=>⟨k1,k2⟩⟩
theorem Ph (s:aj) (t:List UInt8) (hr:AA s.fDefs) (hl:s.fDefs.length<=1000):∃ d,kY s t=some (d,aK s.fDefs t):=by
 obtain⟨d,h, -⟩:=Ir s t hr hl
 exact⟨d,h⟩
theorem NA (hr:AA l) {a b:Df} (ha:a∈l) (hb:b∈l) (h:a.fTag=b.fTag):a=b:=by
 obtain⟨i,hi⟩:=UJ ha
 obtain⟨j,hj⟩:=UJ hb
 have key:∀ {i j:Nat} {a b:Df},i<j->l[i]?=some a->l[j]?=some b->a.fTag≠b.fTag:=fun{i j a b} V ha hb e=>by
  have:Op.bytesLess a.fTag b.fTag=true:=hr.lt V (by rw[Tk,ha];rfl) (by rw[Tk,hb];rfl)
  rw[e,lB] at this;cases this
 rcases Nat.lt_trichotomy i j with q|q|q
 ·exact absurd h (key q hi hj)
 ·subst q;rw[hi] at hj;exact US hj
 ·exact absurd h.symm (key q hj hi)
variable {W:List (List UInt8×Bool)}
theorem QV (S:aj) (hr:AA S.fDefs) (hs:S.fDefs.length<=1000) {fu:Nat} {f:List Sl->Int->Int×Int} {a:Nat} {m:Int} {e:Sl} (hd:a<=7) (h0:0<=m) (h1:m<=300) (hb:Hi e) (w:e.fName≠[]->m+1<=300->a<=6->bU fu ⟨S,m+1⟩ e.fItems ((a:Int)+1)=some ((f e.fItems (m+1)).1,⟨S,(f e.fItems (m+1)).2⟩)):
  ck (fu+1) ⟨S,m⟩ e (a:Int)=some ((wK (aK S.fDefs) f a m e).1,⟨S,(wK (aK S.fDefs) f a m e).2⟩):=by
 rw[k9];unfold pY;dsimp only;simp only[kZ]
 obtain⟨d,r7⟩:=Ph S e.fTag hr hs
 simp only[fj,PU e hb,RS e hb,G3 _ hb.name,CY,bR,aY,SQ,r7]
 rw[bp (m+1) oM oM,bp ((a:Int)+1) oM oM]
 rcases Iq (aK S.fDefs) f a m e with⟨c1,q⟩|⟨c1,z,q⟩|⟨c1,z,u,q⟩|⟨c1,z,u,j,q⟩|⟨c1,z,u,j,c,q⟩|⟨c1,z,u,j,c,q⟩
 ·rw[q,show(decide (300<m+1)||decide (6<(a:Int)))=true by simpa using c1];rfl
 ·rw[q,show(decide (300<m+1)||decide (6<(a:Int)))=false by simpa using c1]
  have:(!oE e&& !qO e)=true:=by simpa using z
  rw[this];rfl
 all_goals
  have h2:(!oE e&& !qO e)=false:=by
   cases hv:oE e with
   |true=>rfl
   |false=>rw[hv] at z;simp only[Tx] at z;rw[z];rfl
  have s9:(decide (300<m+1)||decide (6<(a:Int)))=false:=by simpa using c1
 ·rw[q,s9,h2,TW u.1,u.2];rfl
 all_goals
  have E:(!decide (e.fName=[])&& !ed e.fName)=false:=by
   by_cases hv:e.fName=[]
   ·rw[TG hv];rfl
   ·have:ed e.fName=true:=by
     cases hq:ed e.fName with
     |true=>rfl
     |false=>exact absurd ⟨hv,hq⟩ u
    rw[this];simp
 ·rw[q,s9,h2,E,TG j.1,j.2];rfl
 all_goals
  have h:(decide (e.fName=[])&& !aK S.fDefs e.fTag)=false:=by
   by_cases hv:e.fName=[]
   ·have:aK S.fDefs e.fTag=true:=by
     cases hq:aK S.fDefs e.fTag with
     |true=>rfl
     |false=>exact absurd ⟨hv,hq⟩ j
    rw[this];simp
   ·rw[TW hv];rfl
 ·have g:(decide (e.fMin<0)||decide (e.fMax<e.fMin)||(decide (e.fMax<1)||decide (1000<e.fMax)))=true:=by
   simp only[Tn,SU];omega
  rw[q,s9,h2,E,h,g];rfl
 ·have g:(decide (e.fMin<0)||decide (e.fMax<e.fMin)||(decide (e.fMax<1)||decide (1000<e.fMax)))=false:=by
   simp only[TF,Ts];omega
  rw[q,s9,h2,E,h,g]
  simp only[S2]
  by_cases hv:e.fName=[]
  ·rw[TG hv,Ub hv];rfl
  ·rw[TW hv,Ul hv]
   simp only[S2]
   have:=w hv oM oM
   show(bU fu ⟨S,m+1⟩ e.fItems ((a:Int)+1)).bind _=_
   rw[this];rfl
theorem NB (S:aj) (hr:AA S.fDefs) (hs:S.fDefs.length<=1000):∀ (k:Nat) (a:Nat) (l:List Sl) (many:Int) (fu:Nat),a<=7->8<=k+a->2 * k+1<=fu->0<=many->many<=300->(∀ b∈l,Hi b)->
  bU fu ⟨S,many⟩ l (a:Int)=some ((uf (aK S.fDefs) k l a many).1,⟨S,(uf (aK S.fDefs) k l a many).2⟩)
 |0,a,_,_,_,h1,h2,_,_,_,_=>by omega
 |k+1,a,l,many,0,_,_,E,_,_,_=>by omega
 |k+1,a,l,many,1,_,_,E,_,_,_=>by omega
 |k+1,a,l,many,fu+2,h1,h2,E,h4,h5,hl=>by
  rw[k0];unfold pY;dsimp only;simp only[k8]
  simp only[fj,Ij]
  unfold uf RW
  by_cases H:l=[]
  ·rw[TG H,Ub H];rfl
  rw[TW H,Ul H]
  simp only[S2]
  by_cases d:50<l.length
  ·rw[Ub d,show decide (50<((l.length:Nat):Int))=true by simp;omega];rfl
  rw[Ul d,show decide (50<((l.length:Nat):Int))=false by simp;omega]
  simp only[S2]
  have o:∀ m b,0<=m->(wK (aK S.fDefs) (fun it m=>uf (aK S.fDefs) k it ((a:Int)+1) m) a m b).1=0->m<=(wK (aK S.fDefs) (fun it m=>uf (aK S.fDefs) k it ((a:Int)+1) m) a m b).2/\(wK (aK S.fDefs) (fun it m=>uf (aK S.fDefs) k it ((a:Int)+1) m) a m b).2<=300:=fun m b Z hx=>by
   obtain⟨N, -, -,q4⟩:=Ki hx
   rcases q4 with⟨_,q⟩|⟨_,q⟩
   ·rw[q];exact⟨by simp only;omega,by simp only;omega⟩
   ·rw[q] at hx⊢
    obtain⟨k1,k2⟩:=AD _ k oM oM hx
    exact⟨by omega,k2⟩
  refine b6 (AC l (fun i (s:Int)=>(S,s,(i:Int))) (fun m e=>if(wK (aK S.fDefs) (fun it m=>uf (aK S.fDefs) k it ((a:Int)+1) m) a m e).1=0 then .inl (wK (aK S.fDefs) (fun it m=>uf (aK S.fDefs) k it ((a:Int)+1) m) a m e).2 else .inr (.inr ((wK (aK S.fDefs) (fun it m=>uf (aK S.fDefs) k it ((a:Int)+1) m) a m e).1,⟨S,(wK (aK S.fDefs) (fun it m=>uf (aK S.fDefs) k it ((a:Int)+1) m) a m e).2⟩)))
   (fun m=> .inl (S,m,(l.length:Int))) (fun m=>0<=m/\m<=300) (fun i e m J Z=> ?_) (fun e m m' J Z hg=> ?_) (fun m Z=> ?_) many ⟨h4,h5⟩) ?_
  ·have hi:=bM J
   have p:=ST J
   have hb:=hl e p
   have c:=QV S hr hs (fu:=fu) (f:=fun it m=>uf (aK S.fDefs) k it ((a:Int)+1) m) (a:=a) (m:=m) h1 Z.1 Z.2 hb (fun hn U j=>by
    have:=NB S hr hs k (a+1) e.fItems (m+1) fu oM oM oM oM U hb.items
    rw[show((a+1:Nat):Int)=(a:Int)+1 by omega] at this
    exact this)
   simp only[bg hi,SZ,ap,J,SQ,bQ i oM]
   show(ck (fu+1) ⟨S,m⟩ e (a:Int)).bind _=_
   rw[c]
   simp only[SQ]
   by_cases hz:(wK (aK S.fDefs) (fun it m=>uf (aK S.fDefs) k it ((a:Int)+1) m) a m e).1=0
   ·rw[Ub hz,TG hz];rfl
   ·rw[Ul hz,TW hz];rfl
  ·by_cases hf:(wK (aK S.fDefs) (fun it m=>uf (aK S.fDefs) k it ((a:Int)+1) m) a m e).1=0
   ·rw[Ub hf] at hg
    cases hg
    have:=o m e Z.1 hf
    exact⟨by omega,this.2⟩
   ·rw[Ul hf] at hg;cases hg
  ·simp only[ao,S2];rfl
  ·have h:∀ (l:List Sl) (many:Int) (B:Int->(aj×Int×Int)⊕(Int×aJ)) (g:Int->Sl->Int×Int),BG (fun s e=>if(g s e).1=0 then(.inl (g s e).2:Int⊕((aj×Int×Int)⊕(Int×aJ))) else .inr (.inr ((g s e).1,⟨S,(g s e).2⟩))) B l many=if(ly g l many).1=0 then B (ly g l many).2 else .inr ((ly g l many).1,⟨S,(ly g l many).2⟩):=by
    intro l
    induction l with
    |nil=>intro many B g;simp[BG,ly]
    |cons b l ih=>
     intro many B g
     unfold BG ly
     by_cases hb:(g many b).1=0
     ·simp only[hb,T6];exact ih _ _ _
     ·simp only[hb,Tv]
   rw[h]
   by_cases hf:(ly (wK (aK S.fDefs) (fun it m=>uf (aK S.fDefs) k it ((a:Int)+1) m) a) l many).1=0
   ·rw[Ub hf]
    show some (0,_)=_
    rw[hf]
   ·rw[Ul hf];rfl
def G9 (W:List (List UInt8×Bool)) (t:List UInt8):Bool:=(th W t).getD false
theorem F6:∀ (W:List (List UInt8×Bool)) (k:List UInt8) (v:Bool) (t:List UInt8),th (qT W k v) t=if t=k then some v else th W t
 |[],k,v,t=>by simp[qT,th]
 |p::W,k,v,t=>by
  unfold qT
  by_cases hk:k=p.1
  ·rw[Ub hk]
   simp only[th]
   by_cases Y:t=k
   ·rw[Ub Y,Ub Y]
   ·rw[Ul Y,Ul Y,Ul (fun h=>Y (h.trans hk.symm))]
  ·rw[Ul hk]
   simp only[th]
   by_cases Y:t=p.1
   ·rw[Ub Y,Ul (fun h=>hk (h.symm.trans Y)),Ub Y]
   ·rw[Ul Y,F6 W k v t,Ul Y]
theorem CQ (W:List (List UInt8×Bool)) (k t:List UInt8):G9 (qT W k true) t=(decide (t=k)||G9 W t):=by
 unfold G9
 rw[F6]
 by_cases h:t=k<;>simp[h]
theorem F7 (h:∀ p∈W,p.2=true) (k:List UInt8):∀ p∈qT W k true,p.2=true:=by
 induction W with
 |nil=>intro p hp;simp[qT] at hp;rw[hp]
 |cons q W ih=>
  intro p hp
  unfold qT at hp
  split at hp
  ·rcases S9.1 hp with rfl|hp
   ·rfl
   ·exact h p (Tz _ hp)
  ·rcases S9.1 hp with rfl|hp
   ·exact h _ (Tl ..)
   ·exact ih (fun p hp=>h p (Tz _ hp)) p hp
theorem Pi (h:∀ p∈W,p.2=true) (t:List UInt8):G9 W t=W.any fun p=>decide (p.1=t):=by
 unfold G9
 induction W with
 |nil=>rfl
 |cons q W ih=>
  simp only[th,List.any_cons]
  by_cases Y:t=q.1
  ·rw[Ub Y,TG Y.symm,h q (Tl ..)];rfl
  ·rw[Ul Y,TW (fun h=>Y h.symm),ih fun p hp=>h p (Tz _ hp)];rfl
theorem Es:∀ (a b seen:List (List UInt8)),jp seen (a++b)=(jp seen a||jp (seen++a) b)
 |[],b,seen=>by simp[jp]
 |t::a,b,seen=>by
  simp only[S_,jp,Es a b (seen++[t]),Bool.or_assoc,S4,S_,Tb]
theorem Kn {D:List UInt8->Bool}:∀ (k:Nat) (l:List Sl) (fu:Nat) (W:List (List UInt8×Bool)) (T:List (List UInt8)),Io D k l->k<=fu->(∀ t,G9 W t=T.contains t)->
  ∃ b o,kX fu l W=some (b,o)/\b=jp T (wA k l)/\(b=false->∀ t,G9 o t=(T++wA k l).contains t)
 |0,_,_,_,_,h,_,_=>h.elim
 |k+1,l,0,_,_,_,h,_=>by omega
 |k+1,l,fu+1,W,T,h,hf,B=>by
  have y:=h.len
  have key:∃ c:Bool×List (List UInt8×Bool),kX (fu+1) l W=some c/\c.1=jp T (wA (k+1) l)/\(c.1=false->∀ t,G9 c.2 t=(T++wA (k+1) l).contains t):=by
   rw[yJ];unfold xv;dsimp only;simp only[yI]
   refine lu (X:=List (List UInt8×Bool)×Nat) (C:=fun c:Bool×List (List UInt8×Bool)=>c.1=jp T (wA (k+1) l)/\(c.1=false->∀ t,G9 c.2 t=(T++wA (k+1) l).contains t)) (fun s=>(s.1,(s.2:Int))) (fun s=>l.length - s.2)
    (fun s=>s.2<=l.length/\(∀ t,G9 s.1 t=(T++(l.take s.2).flatMap (zH (wA k))).contains t)/\jp T (wA (k+1) l)=jp (T++(l.take s.2).flatMap (zH (wA k))) ((l.drop s.2).flatMap (zH (wA k)))) ?_ (W,0) ⟨To _,by simpa using B,by simp[wA]⟩
   rintro⟨M,i⟩ ⟨h1,h2,E⟩
   simp only at h1 h2 E⊢
   rcases Th i l.length with hi|hi
   ·obtain⟨e,J⟩:=dY hi
    have Z:=ST J
    have L:(l.take (i+1)).flatMap (zH (wA k))=(l.take i).flatMap (zH (wA k))++zH (wA k) e:=by rw[eu J,UM];simp
    rw[nI J,UV,Es] at E
    simp only[bg hi,SZ,ap,J,SQ,bQ i oM]
    by_cases hn:e.fName=[]
    ·rw[TG hn]
     have hz:zH (wA k) e=[]:=by unfold zH;rw[Ub hn]
     rw[hz] at E
     refine .inl ⟨(M,i+1),⟨hi, ?_, ?_⟩,by simp only;omega,rfl⟩
     ·intro t;rw[L,hz];simpa using h2 t
     ·rw[L,hz,E];simp[jp]
    ·rw[TW hn]
     have hz:zH (wA k) e=e.fName::wA k e.fItems:=by unfold zH;rw[Ul hn]
     rw[hz] at E
     simp only[jp] at E
     have hg:(th M e.fName).getD false=(T++(l.take i).flatMap (zH (wA k))).contains e.fName:=h2 e.fName
     simp only[S2]
     rw[hg]
     cases hc:(T++(l.take i).flatMap (zH (wA k))).contains e.fName with
     |true=>
      rw[hc] at E
      exact .inr ⟨_,(true,M),rfl,rfl,by rw[E];rfl,fun h=>by cases h⟩
     |false=>
      rw[hc,Tx] at E
      simp only[S2]
      obtain⟨b,o,N,H,q3⟩:=Kn k e.fItems fu (qT M e.fName true) (T++(l.take i).flatMap (zH (wA k))++[e.fName]) ((h.it Z).2 hn) oM (fun t=>by
       rw[CQ,h2 t,Ti]
       simp only[Ux,Ta,Td,Tn,SU]
       constructor
       ·rintro(h|h)
        ·exact .inr h
        ·exact .inl h
       ·rintro(h|h)
        ·exact .inr h
        ·exact .inl h)
      rw[N]
      simp only[SQ]
      rw[<-H] at E
      cases b with
      |true=>exact .inr ⟨_,(true,o),rfl,rfl,by rw[E];rfl,fun h=>by cases h⟩
      |false=>
       rw[Tx] at E
       refine .inl ⟨(o,i+1),⟨hi, ?_, ?_⟩,by simp only;omega,rfl⟩
       ·intro t
        rw[q3 rfl t,L,hz]
        simp
       ·rw[L,hz,E];simp
   ·have m:i=l.length:=by omega
    subst m
    rw[TV] at h2 E
    rw[Uo] at E
    refine .inr ⟨.inl (M,(l.length:Int)),(false,M),by simp only[ao,S2];rfl,rfl, ?_,fun _=>h2⟩
    rw[E];rfl
  obtain⟨⟨b,o⟩,k1,k2,k3⟩:=key
  exact⟨b,o,k1,k2,k3⟩
theorem Et (R:Type) (K:List (List UInt8×Bool)->Option R):∀ (es:List (List UInt8×Bool)) (M:List (List UInt8×Bool)),tB (fun(e:List UInt8×Bool) (s:List (List UInt8×Bool))=>(some (Sum.inl (qT s e.1 true)):Option (List (List UInt8×Bool)⊕(List (List UInt8×Bool)⊕R)))) K es M=K (es.foldl (fun M e=>qT M e.1 true) M)
 |[],M=>rfl
 |e::es,M=>by
  simp only[tB,List.foldl_cons]
  exact Et R K es _
theorem Is:∀ (es:List (List UInt8×Bool)) (M:List (List UInt8×Bool)) (t:List UInt8),G9 (es.foldl (fun M e=>qT M e.1 true) M) t=(G9 M t||es.any fun p=>decide (p.1=t))
 |[],M,t=>by simp
 |e::es,M,t=>by
  simp only[List.foldl_cons,List.any_cons]
  rw[Is es _ t,CQ]
  have:decide (t=e.1)=decide (e.1=t):=by congr 1;apply propext;exact eq_comm
  rw[this]
  cases decide (e.1=t)<;>cases G9 M t<;>simp
theorem F8:∀ (es:List (List UInt8×Bool)) (M:List (List UInt8×Bool)),(∀ p∈M,p.2=true)->∀ p∈es.foldl (fun M e=>qT M e.1 true) M,p.2=true
 |[],M,h=>h
 |e::es,M,h=>F8 es _ (F7 h e.1)
theorem NC {α:Type} {p:α->Bool} {a b:List α} (h:a.Perm b):a.any p=b.any p:=by
 rw[Ti,Uu,Uu]
 constructor
 ·rintro⟨x,hx,h1⟩;exact⟨x,h.mem_iff.1 hx,h1⟩
 ·rintro⟨x,hx,h1⟩;exact⟨x,h.mem_iff.2 hx,h1⟩
theorem Ko {D:List UInt8->Bool}:∀ (k:Nat) (l:List Sl) (fu:Nat) (W:List (List UInt8×Bool)) (S:List UInt8->Bool) (g:Bool),Io D k l->k<=fu->(∀ t,G9 W t=S t)->(∀ p∈W,p.2=true)->gD fu l W g=some (EG k l S g)
 |0,_,_,_,_,_,h,_,_,_=>h.elim
 |k+1,l,0,_,_,_,_,h,_,_=>by omega
 |k+1,l,fu+1,W,S,g,h,hf,B,f=>by
  have y:=h.len
  rw[yL];unfold xw;dsimp only;simp only[yK]
  have r:(bJ (fun s:Int=>bif decide (s<(l.length:Int)) then(cm l s).bind fun e=>bif decide (e.fName=[]) then some (Sum.inl (IntKind.i64.wrap (s+1))) else wW W (fun e s=>some (Sum.inl (qT s e.fst true))) [] fun u=>(dP l ((some s).getD 0) ((none:Option Int).getD ((l.length:Nat):Int))).bind fun F=>(bJ (fun s:List (List UInt8×Bool)×Int=>bif decide (s.snd<((F.length:Nat):Int)) then(cm F s.snd).bind fun e=>(io {fTag:=e.fTag,fName:=e.fName,fMin:=e.fMin,fMax:=e.fMax,fItems:=e.fItems}).bind fun x=>some (Sum.inl (qT s.fst x true,IntKind.i64.wrap (s.snd+1))) else cb (some (Sum.inl (s.fst,s.snd)))) (u,0)).bind (bX fun b=>(gD fu e.fItems b.fst true).bind fun x=>bif x then cb (cb (some true)) else some (Sum.inl (IntKind.i64.wrap (s+1)))) else cb (some (Sum.inl s))) 0).bind (bX fun _=>some false)=some (LS (fun it n=>EG k it n true) S l):=by
   refine mI (X:=Nat) (fun i=>(i:Int)) (fun i=>l.length - i) (fun i=>i<=l.length/\LS (fun it n=>EG k it n true) S l=LS (fun it n=>EG k it n true) S (l.drop i)) ?_ 0 ⟨To _,rfl⟩
   rintro i ⟨k1,k2⟩
   rcases Th i l.length with hi|hi
   ·obtain⟨e,J⟩:=dY hi
    have Z:=ST J
    have z:=nI J
    rw[z] at k2
    simp only[LS] at k2
    simp only[bg hi,SZ,ap,J,SQ,bQ i oM]
    by_cases hn:e.fName=[]
    ·rw[TG hn] at k2⊢
     exact .inl ⟨i+1,⟨hi,by simpa using k2⟩,by omega,rfl⟩
    ·rw[TW hn] at k2⊢
     simp only[Tw,S8] at k2
     have u8:dP l ((some (i:Int)).getD 0) ((none:Option Int).getD ((l.length:Nat):Int))=some (l.drop i):=by
      simp only[T8,TI,dP]
      rw[Ub ⟨by omega,by omega,T1 _⟩,T_ l.length,Tr (S0 _)]
      simp
     have a:wW W (fun(e:List UInt8×Bool) (s:List (List UInt8×Bool))=>some (Sum.inl (qT s e.fst true))) [] (fun u=>(dP l ((some (i:Int)).getD 0) ((none:Option Int).getD ((l.length:Nat):Int))).bind fun F=>(bJ (fun s:List (List UInt8×Bool)×Int=>bif decide (s.snd<((F.length:Nat):Int)) then(cm F s.snd).bind fun e=>(io {fTag:=e.fTag,fName:=e.fName,fMin:=e.fMin,fMax:=e.fMax,fItems:=e.fItems}).bind fun x=>some (Sum.inl (qT s.fst x true,IntKind.i64.wrap (s.snd+1))) else cb (some (Sum.inl (s.fst,s.snd)))) (u,0)).bind (bX fun b=>(gD fu e.fItems b.fst true).bind fun x=>bif x then(cb (cb (some true)):Option (Int⊕(Int⊕Bool))) else some (Sum.inl ((i+1:Nat):Int))))=
       some (if EG k e.fItems (fun t=>S t||((e::l.drop (i+1)).map ec).contains t) true=true then .inr (.inr true) else .inl ((i+1:Nat):Int)):=by
      refine K3 fun o hp=> ?_
      rw[Et,u8]
      simp only[SQ]
      have c:∀ t,G9 (o.foldl (fun M e=>qT M e.1 true) []) t=S t:=fun t=>by
       rw[Is,NC hp,<-Pi f,B];rfl
      have w:=F8 o [] (fun p hp=>by cases hp)
      generalize o.foldl (fun M e=>qT M e.1 true) []=M0 at c w
      refine mI (X:=List (List UInt8×Bool)×Nat) (fun s=>(s.1,(s.2:Int))) (fun s=>(l.drop i).length - s.2) (fun s=>s.2<=(l.drop i).length/\(∀ t,G9 s.1 t=(S t||(((l.drop i).take s.2).map ec).contains t))/\∀ p∈s.1,p.2=true) ?_ (M0,0) ⟨To _,by simpa using c,w⟩
      rintro⟨M,j⟩ ⟨d,C,q⟩
      simp only at d C q⊢
      rcases Th j (l.drop i).length with hj|hj
      ·obtain⟨x,hx⟩:=dY hj
       have v:x∈l:=TE (ST hx)
       have A:(l.drop i).length<=50:=by rw[TH];omega
       simp only[bg hj,SZ,ap,hx,SQ,fj,Nv (h.it v).1.ok,bQ j oM]
       refine .inl ⟨(qT M (ec x) true,j+1),⟨hj,fun t=> ?_,F7 q _⟩,by simp only;omega,rfl⟩
       simp only
       rw[CQ,C t,eu hx,Ti]
       simp only[Ux,UR,S5,Ui,Ta,Td,Tn,SU]
       constructor
       ·rintro(h|h|h)
        ·exact .inr (.inr h)
        ·exact .inl h
        ·exact .inr (.inl h)
       ·rintro(h|h|h)
        ·exact .inr (.inl h)
        ·exact .inr (.inr h)
        ·exact .inl h
      ·have m:j=(l.drop i).length:=by omega
       subst m
       rw[TV,z] at C
       refine .inr ⟨_,by simp only[ao,S2];rfl, ?_⟩
       simp only[bX]
       rw[Ko k e.fItems fu M _ true ((h.it Z).2 hn) oM C q]
       simp only[SQ]
       cases EG k e.fItems (fun t=>S t||((e::l.drop (i+1)).map ec).contains t) true<;>rfl
     simp only[S2]
     rw[a]
     cases hc:EG k e.fItems (fun t=>S t||((e::l.drop (i+1)).map ec).contains t) true with
     |true=>rw[hc] at k2;exact .inr ⟨_,by rw[Ub rfl],by rw[k2];rfl⟩
     |false=>rw[hc] at k2;exact .inl ⟨i+1,⟨hi,by simpa using k2⟩,by omega,by rw[Ul oS]⟩
   ·have m:i=l.length:=by omega
    subst m
    rw[Uo] at k2
    exact .inr ⟨_,by simp only[ao,S2];rfl,by rw[k2];rfl⟩
  refine mI (X:=List (List UInt8×Bool)×Nat) (fun s=>(s.1,(s.2:Int))) (fun s=>l.length - s.2) (fun s=>s.2<=l.length/\(∀ t,G9 s.1 t=((l.take s.2).map ec).contains t)/\(En S g 0 (l.map ec)||jp [] (l.map ec))=(En S g s.2 ((l.drop s.2).map ec)||jp ((l.take s.2).map ec) ((l.drop s.2).map ec))) ?_ ([],0) ⟨To _,fun t=>by simp[G9,th],by simp⟩
  rintro⟨M,i⟩ ⟨k1,k2,k3⟩
  simp only at k1 k2 k3⊢
  rcases Th i l.length with hi|hi
  ·obtain⟨e,J⟩:=dY hi
   have Z:=ST J
   rw[nI J] at k3
   simp only[S5,En,jp] at k3
   simp only[bg hi,SZ,ap,J,SQ,bQ i oM,fj,Nv (h.it Z).1.ok,aY,bR]
   have h2:decide ((i:Int)=0)=decide (i=0):=by congr 1;apply propext;omega
   have e1:(th M (ec e)).getD false=((l.take i).map ec).contains (ec e):=k2 _
   have e2:(th W (ec e)).getD false=S (ec e):=B _
   rw[h2,e1,e2]
   have L:(l.take (i+1)).map ec=(l.take i).map ec++[ec e]:=by rw[eu J];simp
   cases hc:(((l.take i).map ec).contains (ec e)||S (ec e)&& !(g&&decide (i=0))) with
   |true=>
    refine .inr ⟨_,rfl, ?_⟩
    unfold EG
    have:(En S g 0 (l.map ec)||jp [] (l.map ec))=true:=by
     rw[k3]
     simp only[Tn,SR] at hc⊢
     rcases hc with hc|hc
     ·exact .inr (.inl hc)
     ·exact .inl (.inl ⟨hc.2,hc.1⟩)
    rw[this];rfl
   |false=>
    simp only[TF,TU] at hc
    refine .inl ⟨(qT M (ec e) true,i+1),⟨hi,fun t=> ?_, ?_⟩,by simp only;omega,rfl⟩
    ·simp only
     rw[CQ,k2 t,L,Ti]
     simp only[Ux,Ta,Td,Tn,SU]
     constructor
     ·rintro(h|h)
      ·exact .inr h
      ·exact .inl h
     ·rintro(h|h)
      ·exact .inr h
      ·exact .inl h
    ·rw[k3,L,hc.1]
     have:(!(g&&decide (i=0))&&S (ec e))=false:=by
      rcases hc.2 with hc|hc
      ·rw[hc];simp
      ·rw[hc];rfl
     rw[this]
     simp
  ·have m:i=l.length:=by omega
   subst m
   rw[Uo,TV] at k3
   refine .inr ⟨_,by simp only[ao,S2];rfl, ?_⟩
   simp only[bX]
   unfold EG
   rw[k3]
   simp only[Ui,En,jp,Tx]
   exact r
theorem E1 (s:aj) (h:Rf s):k_ s=some (LT s):=by
 have d:=vw
 unfold k_ xC;dsimp only
 rw[G3 _ h.kind,G3 _ h.version,QU _ h.tags]
 simp only[SQ,bR]
 unfold LT
 by_cases c1:ed s.fKind=false\/ed s.fVersion=false
 ·rw[Ub c1,show(!ed s.fKind|| !ed s.fVersion)=true by simpa using c1];rfl
 rw[Ul c1,show(!ed s.fKind|| !ed s.fVersion)=false by simpa using c1]
 simp only[S2]
 by_cases z:vc s.fDefs=0
 ·rw[Ul (not_not_intro z),TG z]
  have w1:=Ep z
  have c:=NB s (F5 z) oM 8 0 s.fItems 0 FU oM oM oM oM oM h.items
  rw[show((0:Nat):Int)=0 from rfl] at c
  rw[c]
  simp only[S7,S2,SQ]
  by_cases u:(uf (aK s.fDefs) 8 s.fItems 0 0).1=0
  ·rw[Ul (not_not_intro u),TG u]
   obtain⟨k1,k2⟩:=yf _ 8 s.fItems 0 0 u
   obtain⟨b,o,N,H, -⟩:=Kn 8 s.fItems FU [] [] k1 oM (fun t=>by simp[G9,th])
   rw[N]
   simp only[S7,S2,SQ]
   rw[<-H]
   cases b with
   |true=>rfl
   |false=>
    simp only[S2,Tj,Tv]
    rw[Ko 8 s.fItems FU [] (fun _=>false) false k1 oM (fun t=>rfl) (fun p hp=>by cases hp)]
    simp only[SQ]
    cases EG 8 s.fItems (fun _=>false) false<;>rfl
  ·rw[Ub u,TW u];rfl
 ·rw[Ub z,TW z];rfl
theorem Lk {seen a b:List (List UInt8)} (h:jp seen (a++b)=false):jp seen a=false/\jp (seen++a) b=false:=by
 rw[Es] at h
 simpa using h
theorem Ee:∀ {l seen:List (List UInt8)},jp seen l=false->∀ t∈l,t∉seen
 |x::l,seen,h,t,Y,hs=>by
  simp only[jp,TF] at h
  rcases S9.1 Y with rfl|Y
  ·have:=h.1;simp at this;exact this hs
  ·exact Ee h.2 t Y (Uh _ hs)
theorem FV:∀ {l seen a:List (List UInt8)},(∀ t∈a,t∈seen)->jp seen l=false->jp a l=false
 |[],_,_,_,_=>rfl
 |x::l,seen,a,hs,h=>by
  simp only[jp,TF] at h⊢
  refine⟨?_,FV (fun t Y=> ?_) h.2⟩
  ·have:=h.1
   simp only[Ux,Ts] at this⊢
   exact fun hx=>this (hs x hx)
  ·rcases Ta.1 Y with Y|Y
   ·exact Uh _ (hs t Y)
   ·exact UG _ Y
theorem OV {l:List (List UInt8)}:∀ {seen},jp seen l=false->l.Pairwise (fun a b=>b≠a):=by
 induction l with
 |nil=>intro _ _;exact .nil
 |cons x l ih=>
  intro seen h
  simp only[jp,TF] at h
  refine Ud.2 ⟨fun y hy e=> ?_,ih h.2⟩
  subst e
  exact Ee h.2 y hy (UG _ (Td.2 rfl))
def Nb (a b:Sl):Prop:=b.fTag=a.fTag/\b.fName=a.fName
def RC:Nat->List Sl->Prop
 |0,_=>True
 |k+1,l=>l.Pairwise (fun a b=>¬ Nb a b)/\∀ e∈l,e.fName≠[]->RC k e.fItems
theorem J8 {f:List Sl->(List UInt8->Bool)->Bool} {S:List UInt8->Bool}:∀ {l:List Sl},LS f S l=false->∀ e∈l,e.fName≠[]->∃ n,f e.fItems n=false
 |x::l,h,e,J,hn=>by
  simp only[LS,TF] at h
  rcases S9.1 J with rfl|J
  ·have:=h.1
   rw[TW hn,Tw,S8] at this
   exact⟨_,this⟩
  ·exact J8 h.2 e J hn
theorem PP {D:List UInt8->Bool}:∀ (k:Nat) (l:List Sl) (seen:List (List UInt8)) (S:List UInt8->Bool) (g:Bool),Io D k l->jp seen (wA k l)=false->EG k l S g=false->RC k l
 |0,_,_,_,_,h,_,_=>h.elim
 |k+1,l,seen,S,g,h,hn,hc=>by
  unfold EG at hc
  simp only[TF] at hc
  obtain⟨⟨-,z⟩,u⟩:=hc
  have f:=OV z
  rw[List.pairwise_map] at f
  have m:∀ (t:List Sl) (seen:List (List UInt8)),(∀ x∈t,x∈l)->jp seen (t.flatMap (zH (wA k)))=false->t.Pairwise (fun a b=>a.fName≠[]->b.fName≠a.fName)/\∀ e∈t,e.fName≠[]->jp [] (wA k e.fItems)=false:=by
   intro t
   induction t with
   |nil=>intro _ _ _;exact⟨.nil,fun e J=>by cases J⟩
   |cons x t ih=>
    intro seen Y hd
    rw[UV] at hd
    obtain⟨o,d2⟩:=Lk hd
    obtain⟨k1,k2⟩:=ih _ (fun y hy=>Y y (Tz _ hy)) d2
    refine⟨Ud.2 ⟨fun y hy hx e=> ?_,k1⟩,fun e J A=> ?_⟩
    ·have c:y.fName≠[]:=by rw[e];exact hx
     have p:y.fName∈t.flatMap (zH (wA k)):=List.mem_flatMap.2 ⟨y,hy,by unfold zH;rw[Ul c];exact Tl ..⟩
     refine Ee d2 _ p (UG _ ?_)
     unfold zH;rw[Ul hx,e];exact Tl ..
    ·rcases S9.1 J with rfl|J
     ·unfold zH at o
      rw[Ul A] at o
      simp only[jp,TF] at o
      exact FV (fun t Y=>by cases Y) o.2
     ·exact k2 e J A
  obtain⟨U,n2⟩:=m l seen (fun x hx=>hx) hn
  refine⟨?_,fun e J A=> ?_⟩
  ·refine(f.and U).imp_of_mem (fun{a b} ha hb q hs=> ?_)
   obtain⟨d,C⟩:=q
   by_cases qf:a.fName=[]
   ·have i:=(h.it ha).1.ok.seg qf
    have j:=(h.it hb).1.ok.seg (by rw[hs.2];exact qf)
    simp only[oE,SR,SU] at i j
    apply d
    unfold ec
    rw[i.2,j.2]
    exact hs.1
   ·exact C qf hs.2
  ·obtain⟨n,hS⟩:=J8 u e J A
   exact PP k e.fItems [] n true ((h.it J).2 A) (n2 e J A) hS
theorem RD {s:aj} (h:LT s=0):RC 8 s.fItems:=by
 unfold LT at h
 split at h
 ·cases h
 split at h
 ·rename_i z;exact absurd h z
 split at h
 ·rename_i u;exact absurd h u
 rename_i u
 have u:=Classical.not_not.1 u
 split at h
 ·cases h
 rename_i j
 split at h
 ·cases h
 rename_i c
 obtain⟨k1, -⟩:=yf _ 8 s.fItems 0 0 u
 exact PP 8 s.fItems [] (fun _=>false) false k1 (by simpa using j) (by simpa using c)
noncomputable section
variable {A S:Type} {k:Nat} {f:S->Option (S⊕A)} {s:S}
section
variable {α R:Type}
theorem kc {F:S} (h:f s=some (.inl F)):bJ f s=bJ f F:=by rw[bV,h]
theorem fa {a:A} (h:f s=some (.inr a)):bJ f s=some a:=by rw[bV,h]
def It (L:List α) (i j:Int) (k:List α->Option R):Option R:=
 (cm L j).bind fun _=>L[j.toNat]?.bind fun e=>(cm L i).bind fun _=>L[i.toNat]?.bind fun e2=>(cm L i).bind fun _=>L[i.toNat]?.bind fun _=>
  (cm (L.set i.toNat e) j).bind fun _=>(L.set i.toNat e)[j.toNat]?.bind fun _=>k ((L.set i.toNat e).set j.toNat e2)
theorem ND {L:List α} {i j:Nat} {u v w:α} {k:List α->Option R} (hi:L[i]?=some u) (hj:L[j]?=some v) (G:(L.set i v)[j]?=some w):It L (i:Int) (j:Int) k=k ((L.set i v).set j u):=by
 unfold It
 simp only[ap,T_,hi,hj,G,SQ]
theorem wb (X Y:List α) (u:α):(X++u::Y)[X.length]?=some u:=by simp
theorem AE (X Y:List α) (u v:α):(X++u::Y).set X.length v=X++v::Y:=by simp
theorem NE (X Y Z:List α) (u v:α) (k:List α->Option R):It (X++u::(Y++v::Z)) (X.length:Int) ((X.length+1+Y.length:Nat):Int) k=k (X++v::(Y++u::Z)):=by
 have e1:∀ w z:α,X++w::(Y++z::Z)=(X++w::Y)++z::Z:=fun w z=>by simp
 have e2:∀ w:α,X.length+1+Y.length=(X++w::Y).length:=fun w=>by simp;omega
 have hj:∀ w z:α,(X++w::(Y++z::Z))[X.length+1+Y.length]?=some z:=fun w z=>by rw[e1,e2 w];exact wb _ _ _
 rw[ND (wb X _ u) (hj u v) (by rw[AE];exact hj v v),AE,e1 v v,e2 v,AE,<-e1]
theorem NF (X Y Z:List α) (u v:α) (k:List α->Option R):It (X++u::(Y++v::Z)) ((X.length+1+Y.length:Nat):Int) (X.length:Int) k=k (X++v::(Y++u::Z)):=by
 have e1:∀ w z:α,X++w::(Y++z::Z)=(X++w::Y)++z::Z:=fun w z=>by simp
 have e2:∀ w:α,X.length+1+Y.length=(X++w::Y).length:=fun w=>by simp;omega
 have hj:∀ w z:α,(X++w::(Y++z::Z))[X.length+1+Y.length]?=some z:=fun w z=>by rw[e1,e2 w];exact wb _ _ _
 have hs:∀ w z y:α,(X++w::(Y++z::Z)).set (X.length+1+Y.length) y=X++w::(Y++y::Z):=fun w z y=>by rw[e1,e2 w,AE,<-e1]
 rw[ND (hj u v) (wb X _ u) (by rw[hs];exact wb X _ u),hs,AE]
structure tf (lt:α->α->Bool):Prop where
 asym:∀ a b,lt a b=true->lt b a=false
 tr:∀ a b c,lt b a=false->lt c b=false->lt c a=false
def qQ (lt:α->α->Bool) (L:List α):Prop:=L.Pairwise (fun a b=>lt b a=false)
def E2 (lt:α->α->Bool) (x y:α):Bool:= !lt x y&& !lt y x
def SP (lt:α->α->Bool) (X Y:List α):Prop:=X.Perm Y/\∀ x,X.filter (E2 lt x)=Y.filter (E2 lt x)
theorem SP.refl (lt:α->α->Bool) (X:List α):SP lt X X:=⟨.refl _,fun _=>rfl⟩
theorem SP.trans {lt:α->α->Bool} {X Y Z:List α} (h:SP lt X Y) (g:SP lt Y Z):SP lt X Z:=⟨h.1.trans g.1,fun x=>(h.2 x).trans (g.2 x)⟩
theorem SP.app {lt:α->α->Bool} {X Y a b:List α} (h:SP lt X a) (g:SP lt Y b):SP lt (X++Y) (a++b):=⟨h.1.append g.1,fun x=>by rw[List.filter_append,List.filter_append,h.2,g.2]⟩
theorem tf.lt_left {lt:α->α->Bool} (O:tf lt) {v v' x:α} (h:lt v v'=false) (g:lt v x=true):lt v' x=true:=by
 cases e:lt v' x with
 |true=>rfl
 |false=>rw[O.tr x v' v e h] at g;cases g
theorem tf.lt_right {lt:α->α->Bool} (O:tf lt) {v v' x:α} (h:lt v' v=false) (g:lt x v=true):lt x v'=true:=by
 cases e:lt x v' with
 |true=>rfl
 |false=>rw[O.tr v v' x h e] at g;cases g
theorem tf.irr {lt:α->α->Bool} (O:tf lt) (v:α):lt v v=false:=by
 cases e:lt v v with
 |false=>rfl
 |true=>rw[<-e];exact O.asym v v e
theorem SP.swap {lt:α->α->Bool} (O:tf lt) {U V:List α} (h:∀ u∈U,∀ v∈V,lt v u=true):SP lt (U++V) (V++U):=by
 refine⟨List.perm_append_comm,fun x=> ?_⟩
 rw[List.filter_append,List.filter_append]
 cases hu:U.filter (E2 lt x) with
 |nil=>simp
 |cons u b=>
  have hV:V.filter (E2 lt x)=[]:=by
   rw[List.filter_eq_nil_iff]
   intro v hv hx
   have j:=UE.1 (hu▸Tl:u∈U.filter (E2 lt x))
   have:=h u j.1 v hv
   have a:=j.2
   simp only[E2,SR,TR] at a hx
   rw[O.tr u x v a.1 hx.2] at this
   cases this
  rw[hV];simp
theorem lS {lt:α->α->Bool} {X Y:List α}:qQ lt (X++Y)↔qQ lt X/\qQ lt Y/\∀ a∈X,∀ b∈Y,lt b a=false:=UI
theorem Pj (lt:α->α->Bool) (x:α):qQ lt [x]:=Ur _ _
theorem yg {lt:α->α->Bool} {V:List α} (h:qQ lt V) {P:α->Prop} (O:tf lt) (j:∀ v v',lt v v'=false->P v->P v') (hk:k=0\/∃ v,V[k - 1]?=some v/\P v):∀ w∈V.take k,P w:=by
 rcases hk with rfl|⟨v,hv,hp⟩
 ·simp
 ·intro w G
  obtain⟨i,hi,rfl⟩:=List.mem_iff_getElem.1 G
  rw[List.getElem_take]
  obtain⟨s0,s3⟩:=SY.1 hv
  have h5:i<k:=by have:=List.length_take_le k V;rw[Tc] at hi;omega
  rcases Up (show i<=k - 1 by omega) with h9|B
  ·exact j v _ (by rw[<-s3];exact List.pairwise_iff_getElem.1 h i (k - 1) oM s0 h9) hp
  ·subst B;rw[s3];exact hp
theorem AF {lt:α->α->Bool} {V:List α} (h:qQ lt V) {P:α->Prop} (j:∀ v v',lt v' v=false->P v->P v') (hk:V.length<=k\/∃ v,V[k]?=some v/\P v):∀ w∈V.drop k,P w:=by
 rcases hk with hk|⟨v,hv,hp⟩
 ·rw[UB hk];simp
 ·intro w G
  obtain⟨i,hi,rfl⟩:=List.mem_iff_getElem.1 G
  rw[List.getElem_drop]
  obtain⟨s0,s3⟩:=SY.1 hv
  rw[TH] at hi
  rcases Nat.eq_zero_or_pos i with rfl|h5
  ·simp only[UC];rw[s3];exact hp
  ·exact j v _ (by rw[<-s3];exact List.pairwise_iff_getElem.1 h k (k+i) s0 oM oM) hp
theorem Jw {lt:α->α->Bool} (O:tf lt):∀ {X Y:List α},qQ lt X->qQ lt Y->SP lt X Y->X=Y:=by
 intro X
 induction X with
 |nil=>intro Y _ _ h;exact(h.1.nil_eq)
 |cons x X ih=>
  intro Y hX e h
  cases Y with
  |nil=>exact absurd h.1.symm.nil_eq oS
  |cons y Y=>
   have a:lt y x=false:=by
    have:=h.1.symm.subset (Tl:y∈y::Y)
    rcases S9.1 this with rfl|Z
    ·exact O.irr _
    ·exact(Ud.1 hX).1 y Z
   have b:lt x y=false:=by
    have:=h.1.subset (Tl:x∈x::X)
    rcases S9.1 this with rfl|Z
    ·exact O.irr _
    ·exact(Ud.1 e).1 x Z
   have hf:=h.2 x
   have e1:E2 lt x x=true:=by simp[E2,O.irr]
   have e2:E2 lt x y=true:=by simp[E2,a,b]
   rw[List.filter_cons_of_pos e1,List.filter_cons_of_pos e2] at hf
   injection hf with c d
   subst c
   rw[ih (Ud.1 hX).2 (Ud.1 e).2 ⟨(List.perm_cons _).1 h.1,fun z=> ?_⟩]
   have:=h.2 z
   rw[List.filter_cons,List.filter_cons] at this
   split at this
   ·injection this
   ·exact this
def Kp (a b n:Int):List α×Int->Option ((List α×Int)⊕((List α×Int)⊕(Unit×List α))):=fun s=>
 bif decide (s.2<n) then It s.1 (IntKind.i64.wrap (a+s.2)) (IntKind.i64.wrap (b+s.2)) (fun j=>some (.inl (j,IntKind.i64.wrap (s.2+1)))) else cb (some (.inl (s.1,s.2)))
def Eu (L:List α) (a b n:Int):Option (Unit×List α):=(bJ (Kp a b n) (L,0)).bind (bX fun s=>some ((),s.1))
theorem Jx:∀ (U V A M B:List α) (a b n i:Nat),U.length=V.length->A.length+U.length+M.length+V.length<=1152921504606846976->a+i=A.length->b+i=A.length+U.length+M.length->n=i+U.length->
  bJ (Kp (a:Int) (b:Int) (n:Int)) (A++U++M++V++B,(i:Int))=some (.inl (A++V++M++U++B,(n:Int))):=by
 intro U
 induction U with
 |nil=>
  intro V A M B a b n i hl hb h1 h2 E
  have hV:V=[]:=by cases V with
   |nil=>rfl
   |cons _ _=>simp at hl
  subst hV
  have:n=i:=by simpa using E
  subst this
  refine fa ?_
  unfold Kp
  simp[cb]
 |cons u U ih=>
  intro V A M B a b n i hl hb h1 h2 E
  cases V with
  |nil=>simp at hl
  |cons v V=>
   simp only[S6] at hl hb h2 E
   have e:A++u::U++M++v::V++B=A++u::((U++M)++v::(V++B)):=by simp
   have w1:IntKind.i64.wrap ((a:Int)+(i:Int))=(A.length:Int):=by rw[bp _ oM oM];omega
   have g:IntKind.i64.wrap ((b:Int)+(i:Int))=((A.length+1+(U++M).length:Nat):Int):=by rw[bp _ oM oM,SW];omega
   have p:IntKind.i64.wrap ((i:Int)+1)=((i+1:Nat):Int):=bQ i oM
   have hd:decide (((i:Nat):Int)<(n:Int))=true:=by simp;omega
   rw[e]
   refine(kc (F:=((A++[v])++U++(M++[u])++V++B,((i+1:Nat):Int))) ?_).trans ?_
   ·unfold Kp
    dsimp only
    rw[hd,w1,g,p]
    dsimp only[cond_true]
    rw[NE]
    simp
   ·rw[ih V (A++[v]) (M++[u]) B a b n (i+1) oM oT oT oT oM]
    simp
theorem Ev (U V A M B:List α) (a b n:Int) (hl:U.length=V.length) (hb:A.length+U.length+M.length+V.length<=1152921504606846976) (ha:a=(A.length:Nat)) (q:b=((A.length+U.length+M.length:Nat):Int)) (hn:n=(U.length:Nat)):
  Eu (A++U++M++V++B) a b n=some ((),A++V++M++U++B):=by
 subst ha q hn
 unfold Eu
 rw[show(0:Int)=((0:Nat):Int) from rfl,Jx U V A M B _ _ _ 0 hl hb oM oM oM]
 rfl
def NG (m:Int):List α×Int×Int->Option ((List α×Int×Int)⊕((List α×Int×Int)⊕(Unit×List α))):=fun s=>
 bif !decide (s.2.1=s.2.2) then
  bif decide (s.2.2<s.2.1) then(Eu s.1 (IntKind.i64.wrap (m - s.2.1)) m s.2.2).bind fun y=>some (.inl (y.2,IntKind.i64.wrap (s.2.1 - s.2.2),s.2.2))
  else(Eu s.1 (IntKind.i64.wrap (m - s.2.1)) (IntKind.i64.wrap (IntKind.i64.wrap (m+s.2.2) - s.2.1)) s.2.1).bind fun y=>some (.inl (y.2,s.2.1,IntKind.i64.wrap (s.2.2 - s.2.1)))
 else cb (some (.inl (s.1,s.2.1,s.2.2)))
def Pk (L:List α) (a m b:Int):Option (Unit×List α):=
 (bJ (NG m) (L,IntKind.i64.wrap (m - a),IntKind.i64.wrap (b - m))).bind (bX fun s=>(Eu s.1 (IntKind.i64.wrap (m - s.2.1)) m s.2.1).bind fun y=>some ((),y.2))
theorem Ly:∀ (n:Nat) (P U V S:List α) (m:Nat),U.length+V.length<=n->U≠[]->V≠[]->(P++U++V++S).length<=1152921504606846976->m=P.length+U.length->
  (bJ (NG (m:Int)) (P++U++V++S,(U.length:Int),(V.length:Int))).bind (bX fun s=>(Eu s.1 (IntKind.i64.wrap ((m:Int) - s.2.1)) (m:Int) s.2.1).bind fun y=>some ((),y.2))=some ((),P++V++U++S):=by
 intro n
 induction n with
 |zero=>intro P U V S m h hU;cases U with
  |nil=>exact absurd rfl hU
  |cons _ _=>simp at h
 |succ n ih=>
  intro P U V S m h hU hV hb Z
  have k:0<U.length:=UA.2 hU
  have q:0<V.length:=UA.2 hV
  have h6:P.length+U.length+V.length+S.length<=1152921504606846976:=by simpa[UZ] using hb
  have w1:IntKind.i64.wrap ((m:Int) - (U.length:Int))=((P.length:Nat):Int):=by rw[bp _ oM oM];omega
  rcases Nat.lt_trichotomy U.length V.length with h9|B|r
  ·
   have hd:(!decide ((U.length:Int)=(V.length:Int)))=true:=by simp;omega
   have G:decide ((V.length:Int)<(U.length:Int))=false:=by simp;omega
   have g:IntKind.i64.wrap (IntKind.i64.wrap ((m:Int)+(V.length:Int)) - (U.length:Int))=((P.length+V.length:Nat):Int):=by
    rw[bp ((m:Int)+(V.length:Int)) oM oM,bp _ oM oM];omega
   have p:IntKind.i64.wrap ((V.length:Int) - (U.length:Int))=((V.length - U.length:Nat):Int):=by rw[bp _ oM oM];omega
   have e:V=V.take (V.length - U.length)++V.drop (V.length - U.length):=(Tf _ _).symm
   generalize b:V.take (V.length - U.length)=l at e
   generalize c:V.drop (V.length - U.length)=o at e
   have Y:l.length=V.length - U.length:=by rw[<-b,Tc];omega
   have l2:o.length=U.length:=by rw[<-c,TH];omega
   have hs:=Ev U o P l S (P.length:Int) ((P.length+V.length:Nat):Int) (U.length:Int) l2.symm oM rfl oM rfl
   rw[kc (F:=(P++o++l++(U++S),(o.length:Int),(l.length:Int)))]
   ·rw[ih P o l (U++S) m oM (by intro h0;rw[h0] at l2;simp at l2;omega) (by intro h0;rw[h0] at Y;simp at Y;omega) oT oM]
    rw[e];simp
   ·unfold NG
    dsimp only
    rw[hd,G,w1,g,p]
    dsimp only[cond_true,cond_false]
    rw[show P++U++V++S=P++U++l++o++S by rw[e];simp,hs,l2,Y]
    simp
  ·have hd:(!decide ((U.length:Int)=(V.length:Int)))=false:=by simp;omega
   rw[fa (a:= .inl (P++U++V++S,(U.length:Int),(V.length:Int)))]
   ·simp only[SQ,bX]
    rw[w1,show P++U++V++S=P++U++[]++V++S by simp,Ev U V P [] S _ _ _ B oT rfl oT rfl]
    simp
   ·unfold NG
    dsimp only
    rw[hd]
    simp[cb]
  ·have hd:(!decide ((U.length:Int)=(V.length:Int)))=true:=by simp;omega
   have G:decide ((V.length:Int)<(U.length:Int))=true:=by simp;omega
   have p:IntKind.i64.wrap ((U.length:Int) - (V.length:Int))=((U.length - V.length:Nat):Int):=by rw[bp _ oM oM];omega
   have e:U=U.take V.length++U.drop V.length:=(Tf _ _).symm
   generalize d:U.take V.length=i at e
   generalize f:U.drop V.length=j at e
   have Y:i.length=V.length:=by rw[<-d,Tc];omega
   have l2:j.length=U.length - V.length:=by rw[<-f,TH]
   have hs:=Ev i V P j S (P.length:Int) (m:Int) (V.length:Int) Y oM rfl oM oM
   rw[kc (F:=(P++V++j++i++S,(j.length:Int),(i.length:Int)))]
   ·rw[ih (P++V) j i S m oM (by intro h0;rw[h0] at l2;simp at l2;omega) (by intro h0;rw[h0] at Y;simp at Y;omega) oT oT]
    rw[e];simp
   ·unfold NG
    dsimp only
    rw[hd,G,w1,p]
    dsimp only[cond_true,cond_false]
    rw[show P++U++V++S=P++i++j++V++S by rw[e];simp,hs,l2,Y]
    simp
theorem Pl (P U V S:List α) (a m b:Int) (hU:U≠[]) (hV:V≠[]) (hb:(P++U++V++S).length<=1152921504606846976) (ha:a=(P.length:Nat)) (Z:m=((P.length+U.length:Nat):Int)) (q:b=((P.length+U.length+V.length:Nat):Int)):
  Pk (P++U++V++S) a m b=some ((),P++V++U++S):=by
 have h6:P.length+U.length+V.length+S.length<=1152921504606846976:=by simpa[UZ] using hb
 unfold Pk
 rw[show IntKind.i64.wrap (m - a)=(U.length:Int) by rw[bp _ oM oM];omega,show IntKind.i64.wrap (b - m)=(V.length:Int) by rw[bp _ oM oM];omega,Z]
 exact Ly _ P U V S _ (S0 _) hU hV hb rfl
end
end
noncomputable section
section
variable {α R:Type}
def Lz (c:α->α->Option Int) (a:Int):List α×Int->Option ((List α×Int)⊕((List α×Int)⊕((List α×Int)⊕((List α×Int)⊕(Unit×List α))))):=fun t=>
 (hY (decide (a<t.2)) ((cm t.1 t.2).bind fun _=>t.1[t.2.toNat]?.bind fun e=>(cm t.1 (IntKind.i64.wrap (t.2 - 1))).bind fun _=>t.1[(IntKind.i64.wrap (t.2 - 1)).toNat]?.bind fun e2=>(c e e2).bind fun x=>some (decide (x<0)))).bind fun v=>
  bif v then It t.1 t.2 (IntKind.i64.wrap (t.2 - 1)) (fun j=>some (.inl (j,IntKind.i64.wrap (t.2 - 1)))) else cb (some (.inl (t.1,t.2)))
def NH (c:α->α->Option Int) (a b:Int):List α×Int->Option ((List α×Int)⊕((List α×Int)⊕(Unit×List α))):=fun s=>
 bif decide (s.2<b) then(bJ (Lz c a) (s.1,s.2)).bind (bX fun t=>some (.inl (t.1,IntKind.i64.wrap (s.2+1)))) else cb (some (.inl (s.1,s.2)))
def LA (c:α->α->Option Int) (L:List α) (a b:Int):Option (Unit×List α):=(bJ (NH c a b) (L,IntKind.i64.wrap (a+1))).bind (bX fun s=>some ((),s.1))
def Kq (Q:α->Prop) (c:α->α->Option Int) (lt:α->α->Bool):Prop:=∀ a b,Q a->Q b->∃ x,c a b=some x/\decide (x<0)=lt a b
theorem LB {Q:α->Prop} {c:α->α->Option Int} {lt:α->α->Bool} (hc:Kq Q c lt) (A:List α) (x:α) (hx:Q x):∀ (n:Nat) (P T:List α),(∀ y∈P,Q y)->P.length<=n->A.length+P.length<=1152921504606846976->
  ∃ d f,P=d++f/\bJ (Lz c (A.length:Int)) (A++P++x::T,((A.length+P.length:Nat):Int))=some (.inl (A++d++x::(f++T),((A.length+d.length:Nat):Int)))/\(∀ y∈f,lt x y=true)/\(d=[]\/∃ y,d[d.length - 1]?=some y/\lt x y=false):=by
 intro n
 induction n with
 |zero=>
  intro P T _ hn hb
  have:P=[]:=Te.1 oM
  subst this
  refine⟨[],[],rfl,fa ?_,by simp,.inl rfl⟩
  unfold Lz
  simp[hY,cb]
 |succ n ih=>
  intro P T j hn hb
  rcases List.eq_nil_or_concat P with rfl|⟨K,y,rfl⟩
  ·refine⟨[],[],rfl,fa ?_,by simp,.inl rfl⟩
   unfold Lz
   simp[hY,cb]
  ·rw[List.concat_eq_append] at j hn hb⊢
   simp only[SW,S6,TN] at hn hb
   obtain⟨z,hz,B⟩:=hc x y hx (j y oS)
   have w1:IntKind.i64.wrap (((A.length+(K++[y]).length:Nat):Int) - 1)=(((A++K).length:Nat):Int):=by rw[bp _ oT oT];simp;omega
   have hd:decide ((A.length:Int)<((A.length+(K++[y]).length:Nat):Int))=true:=by simp;omega
   have e:A++(K++[y])++x::T=(A++K)++y::([]++x::T):=by simp
   have e2:A.length+(K++[y]).length=(A++K).length+1+([]:List α).length:=by simp;omega
   have g1:((A++K)++y::([]++x::T))[(A++K).length+1+([]:List α).length]?=some x:=by
    rw[show(A++K)++y::([]++x::T)=(A++K++[y])++x::T by simp,show(A++K).length+1+([]:List α).length=(A++K++[y]).length by simp;omega];exact wb _ _ _
   have g2:=wb (A++K) ([]++x::T) y
   have hf:Lz c (A.length:Int) (A++(K++[y])++x::T,((A.length+(K++[y]).length:Nat):Int))=bif lt x y then some (.inl (A++K++x::(y::T),(((A++K).length:Nat):Int))) else some (.inr (.inl (A++(K++[y])++x::T,((A.length+(K++[y]).length:Nat):Int)))):=by
    unfold Lz
    dsimp only
    rw[hd,w1,e,e2]
    simp only[ap,T_,g1,g2,SQ,hz,B,hY,SZ,NF]
    cases lt x y<;>simp[cb]
   cases hl:lt x y with
   |true=>
    rw[hl] at hf
    obtain⟨d,f,h1,h2,E,h4⟩:=ih K (y::T) (fun z hz=>j z (Uh _ hz)) oM oM
    refine⟨d,f++[y],by rw[h1];simp, ?_, ?_,h4⟩
    ·rw[kc hf,SW,h2];simp
    ·intro w G
     rcases Ta.1 G with h|h
     ·exact E w h
     ·rw[Td.1 h];exact hl
   |false=>
    rw[hl] at hf
    refine⟨K++[y],[],by simp,by rw[fa hf];simp,by simp,.inr ⟨y, ?_,hl⟩⟩
    simp
theorem LC {Q:α->Prop} {c:α->α->Option Int} {lt:α->α->Bool} (O:tf lt) (hc:Kq Q c lt) (A B:List α):∀ (T P:List α),(∀ y∈P++T,Q y)->qQ lt P->A.length+P.length+T.length<=1152921504606846976->
  ∃ W,bJ (NH c (A.length:Int) ((A.length+P.length+T.length:Nat):Int)) (A++P++T++B,((A.length+P.length:Nat):Int))=some (.inl (A++W++B,((A.length+P.length+T.length:Nat):Int)))/\qQ lt W/\SP lt (P++T) W:=by
 intro T
 induction T with
 |nil=>
  intro P _ j hb
  refine⟨P,fa ?_,j,by simpa using SP.refl lt P⟩
  unfold NH
  simp[cb]
 |cons x T ih=>
  intro P hQ j hb
  simp only[S6] at hb
  obtain⟨d,f,h1,h2,E,h4⟩:=LB hc A x (hQ x oS) P.length P (T++B) (fun y hy=>hQ y (Uh _ hy)) (S0 _) oM
  have e:qQ lt d/\qQ lt f/\∀ a∈d,∀ b∈f,lt b a=false:=lS.1 (h1▸j)
  have h5:∀ y∈d,lt x y=false:=by
   have:=yg (k:=d.length) e.1 (P:=fun y=>lt x y=false) O (fun v v' h g=>O.tr v' v x h g) (by
    rcases h4 with h|h
    ·exact .inl (by rw[h];rfl)
    ·exact .inr h)
   rwa[TV] at this
  have hs:qQ lt (d++x::f):=by
   refine lS.2 ⟨e.1,Ud.2 ⟨fun y hy=>O.asym _ _ (E y hy),e.2.1⟩,fun a ha b hb=> ?_⟩
   rcases S9.1 hb with rfl|hb
   ·exact h5 a ha
   ·exact e.2.2 a ha b hb
  have u7:SP lt (P++[x]) (d++x::f):=by
   rw[h1,S4]
   exact(SP.refl lt d).app (SP.swap O (fun u hu v hv=>by rw[Td.1 hv];exact E u hu))
  have i:∀ y∈(d++x::f)++T,Q y:=by
   intro y hy
   rcases Ta.1 hy with h|h
   ·rcases Ta.1 (u7.1.mem_iff.2 h) with h|h
    ·exact hQ y (Uh _ h)
    ·exact hQ y (by rw[Td.1 h];simp)
   ·exact hQ y (by simp[h])
  obtain⟨W,g1,g2,g3⟩:=ih (d++x::f) i hs (by rw[show(d++x::f).length=P.length+1 by rw[h1];simp;omega];omega)
  have Y:(d++x::f).length=P.length+1:=by rw[h1];simp;omega
  refine⟨W, ?_,g2, ?_⟩
  ·rw[Y] at g1
   rw[kc (F:=(A++(d++x::f)++T++B,((A.length+(P.length+1):Nat):Int)))]
   ·rw[show A.length+P.length+(x::T).length=A.length+(P.length+1)+T.length by simp;omega]
    exact g1
   ·have w1:IntKind.i64.wrap (((A.length+P.length:Nat):Int)+1)=((A.length+(P.length+1):Nat):Int):=by rw[bp _ oM oM];omega
    have hd:decide (((A.length+P.length:Nat):Int)<((A.length+P.length+(x::T).length:Nat):Int))=true:=by simp;omega
    unfold NH
    dsimp only
    rw[hd,w1,show A++P++x::T++B=A++P++x::(T++B) by simp,h2]
    simp[bX]
  ·refine SP.trans ?_ g3
   rw[show P++x::T=(P++[x])++T by simp]
   exact u7.app (SP.refl lt T)
theorem Kr {Q:α->Prop} {c:α->α->Option Int} {lt:α->α->Bool} (O:tf lt) (hc:Kq Q c lt) (A U B:List α) (hQ:∀ u∈U,Q u) (a b:Int) (ha:a=(A.length:Nat)) (hb:b=((A.length+U.length:Nat):Int)) (hl:A.length+U.length<=1152921504606846976):
  ∃ W,LA c (A++U++B) a b=some ((),A++W++B)/\qQ lt W/\SP lt U W:=by
 subst ha hb
 unfold LA
 have w1:IntKind.i64.wrap ((A.length:Int)+1)=((A.length+1:Nat):Int):=by rw[bp _ oM oM];omega
 cases U with
 |nil=>
  refine⟨[], ?_,List.Pairwise.nil,SP.refl _ _⟩
  rw[w1,fa (a:= .inl (A++[]++B,((A.length+1:Nat):Int)))]
  ·rfl
  ·unfold NH
   have hd:decide (((A.length+1:Nat):Int)<((A.length+([]:List α).length:Nat):Int))=false:=by simp;omega
   dsimp only
   rw[hd]
   rfl
 |cons u T=>
  obtain⟨W,g1,g2,g3⟩:=LC O hc A B T [u] hQ (Pj lt u) (by simp at hl⊢;omega)
  refine⟨W, ?_,g2,g3⟩
  rw[w1,show A++u::T++B=A++[u]++T++B by simp,show A.length+1=A.length+[u].length from rfl,show A.length+(u::T).length=A.length+[u].length+T.length by simp;omega,g1]
  rfl
def Ks (c:α->α->Option Int) (L:List α) (i j:Int) (k:Int->Option R):Option R:=
 (cm L i).bind fun _=>L[i.toNat]?.bind fun e=>(cm L j).bind fun _=>L[j.toNat]?.bind fun e2=>(c e e2).bind k
theorem Ew {Q:α->Prop} {c:α->α->Option Int} {lt:α->α->Bool} (hc:Kq Q c lt) {L:List α} {i j:Nat} {x y:α} (hx:Q x) (hy:Q y) (hi:L[i]?=some x) (hj:L[j]?=some y):∃ z,(∀ {R:Type} (k:Int->Option R),Ks c L (i:Int) (j:Int) k=k z)/\decide (z<0)=lt x y:=by
 obtain⟨z,hz,B⟩:=hc x y hx hy
 refine⟨z,fun k=> ?_,B⟩
 unfold Ks
 simp only[ap,T_,hi,hj,hz,SQ]
def ri (i j:Int):Int:=IntKind.i64.wrap (IntKind.u64.wrap (IntKind.i64.wrap (i+j))/2)
theorem CR (i j:Nat) (h:i+j<=4611686018427387904):ri (i:Int) (j:Int)=(((i+j)/2:Nat):Int):=by
 unfold ri
 rw[bp ((i:Int)+(j:Int)) oM oM,show((i:Int)+(j:Int))=((i+j:Nat):Int) by omega,IntKind.wrap_u64]
 rw[bp _ oM oM]
 omega
def LU (c:α->α->Option Int) (L:List α) (I J:Int->Int) (T:Int->Bool):Int×Int->Option ((Int×Int)⊕((Int×Int)⊕R)):=fun s=>
 bif decide (s.1<s.2) then iZ (IE .u64 1) (Ks c L (I (ri s.1 s.2)) (J (ri s.1 s.2)) fun x=>bif T x then some (.inl (IntKind.i64.wrap (ri s.1 s.2+1),s.2)) else some (.inl (s.1,ri s.1 s.2))) else cb (some (.inl (s.1,s.2)))
theorem Jy {c:α->α->Option Int} {L:List α} {I J:Int->Int} {T:Int->Bool} (q:Nat->Bool) (lo hi:Nat) (hh:hi<=1152921504606846976) (hq:∀ h,lo<=h->h<hi->∃ z,(∀ {R:Type} (k:Int->Option R),Ks c L (I (h:Int)) (J (h:Int)) k=k z)/\T z=q h):∀ (n i j:Nat),j - i<=n->lo<=i->i<=j->j<=hi->(i=lo\/q (i - 1)=true)->(j=hi\/q j=false)->
  ∃ r,lo<=r/\r<=hi/\bJ (LU (R:=R) c L I J T) ((i:Int),(j:Int))=some (.inl ((r:Int),(r:Int)))/\(r=lo\/q (r - 1)=true)/\(r=hi\/q r=false):=by
 intro n
 induction n with
 |zero=>
  intro i j hn h1 h2 E h4 h5
  have:i=j:=by omega
  subst this
  refine⟨i,h1,E,fa ?_,h4,h5⟩
  unfold LU
  simp[cb]
 |succ n ih=>
  intro i j hn h1 h2 E h4 h5
  rcases Up h2 with h9|rfl
  ·have hd:decide ((i:Int)<(j:Int))=true:=by simp;omega
   have Z:=CR i j oM
   obtain⟨z,hz,B⟩:=hq ((i+j)/2) oM oM
   have w1:IntKind.i64.wrap ((((i+j)/2:Nat):Int)+1)=(((i+j)/2+1:Nat):Int):=bQ _ oM
   have hf:LU (R:=R) c L I J T ((i:Int),(j:Int))=bif q ((i+j)/2) then some (.inl ((((i+j)/2+1:Nat):Int),(j:Int))) else some (.inl ((i:Int),(((i+j)/2:Nat):Int))):=by
    unfold LU
    dsimp only
    rw[hd,Z,w1]
    dsimp only[cond_true]
    rw[hz,B]
    rfl
   cases o:q ((i+j)/2) with
   |true=>
    rw[o] at hf
    obtain⟨r,g1,g2,g3,g4⟩:=ih ((i+j)/2+1) j oM oM oM E (.inr (by simpa using o)) h5
    exact⟨r,g1,g2,by rw[kc hf];exact g3,g4⟩
   |false=>
    rw[o] at hf
    obtain⟨r,g1,g2,g3,g4⟩:=ih i ((i+j)/2) oM h1 oM oM h4 (.inr o)
    exact⟨r,g1,g2,by rw[kc hf];exact g3,g4⟩
  ·refine⟨i,h1,E,fa ?_,h4,h5⟩
   unfold LU
   simp[cb]
def RX (i:Int):List α×Int->Option ((List α×Int)⊕((List α×Int)⊕(Unit×List α))):=fun s=>
 bif decide (s.2<IntKind.i64.wrap (i - 1)) then It s.1 s.2 (IntKind.i64.wrap (s.2+1)) (fun j=>some (.inl (j,IntKind.i64.wrap (s.2+1)))) else cb (some (.inl (s.1,s.2)))
theorem NI (x:α) (B:List α):∀ (V A:List α) (i:Nat),A.length+V.length<=1152921504606846976->i=A.length+V.length+1->bJ (RX (i:Int)) (A++x::V++B,(A.length:Int))=some (.inl (A++V++x::B,((i - 1:Nat):Int))):=by
 intro V
 induction V with
 |nil=>
  intro A i hb hi
  subst hi
  have w:IntKind.i64.wrap (((A.length+([]:List α).length+1:Nat):Int) - 1)=(A.length:Int):=by
   rw[TN] at *
   rw[bp _ oM oM];omega
  refine fa ?_
  unfold RX
  dsimp only
  rw[w]
  simp[cb]
 |cons v V ih=>
  intro A i hb hi
  simp only[S6] at hb hi
  have w:IntKind.i64.wrap ((i:Int) - 1)=((A.length+V.length+1:Nat):Int):=by rw[bp _ oM oM];omega
  have hd:decide ((A.length:Int)<((A.length+V.length+1:Nat):Int))=true:=by simp;omega
  have g:IntKind.i64.wrap ((A.length:Int)+1)=((A.length+1+([]:List α).length:Nat):Int):=by rw[bp _ oM oM];simp
  rw[kc (F:=((A++[v])++x::V++B,((A++[v]).length:Int)))]
  ·rw[ih (A++[v]) i oT oT]
   simp
  ·unfold RX
   dsimp only
   rw[w,hd,g]
   dsimp only[cond_true]
   rw[show A++x::v::V++B=A++x::([]++v::(V++B)) by simp,NE]
   simp
def Rg (i:Int):List α×Int->Option ((List α×Int)⊕((List α×Int)⊕(Unit×List α))):=fun s=>
 bif decide (i<s.2) then It s.1 s.2 (IntKind.i64.wrap (s.2 - 1)) (fun j=>some (.inl (j,IntKind.i64.wrap (s.2 - 1)))) else cb (some (.inl (s.1,s.2)))
theorem NJ (y:α) (A:List α):∀ (n:Nat) (U B:List α),U.length<=n->A.length+U.length<=1152921504606846976->bJ (Rg (A.length:Int)) (A++U++y::B,((A.length+U.length:Nat):Int))=some (.inl (A++y::U++B,(A.length:Int))):=by
 intro n
 induction n with
 |zero=>
  intro U B hn hb
  have:U=[]:=Te.1 oM
  subst this
  refine fa ?_
  unfold Rg
  simp[cb]
 |succ n ih=>
  intro U B hn hb
  rcases List.eq_nil_or_concat U with rfl|⟨Q,u,rfl⟩
  ·refine fa ?_
   unfold Rg
   simp[cb]
  ·rw[List.concat_eq_append] at hn hb⊢
   simp only[SW,S6,TN] at hn hb
   have hd:decide ((A.length:Int)<((A.length+(Q++[u]).length:Nat):Int))=true:=by simp;omega
   have w1:IntKind.i64.wrap (((A.length+(Q++[u]).length:Nat):Int) - 1)=(((A++Q).length:Nat):Int):=by rw[bp _ oT oT];simp;omega
   rw[kc (F:=(A++Q++y::(u::B),((A.length+Q.length:Nat):Int)))]
   ·rw[ih Q (u::B) oM oM]
    simp
   ·unfold Rg
    dsimp only
    rw[hd,w1,show A++(Q++[u])++y::B=(A++Q)++u::([]++y::B) by simp,show A.length+(Q++[u]).length=(A++Q).length+1+([]:List α).length by simp;omega]
    dsimp only[cond_true]
    rw[NF]
    simp
end
end
noncomputable section
variable {n:Nat}
section
variable {α:Type}
def Kt (f:List α->Int->Int->Int->Option (Unit×List α)) (L:List α) (a s d e b:Int):Option (Unit×List α):=
 (hY (decide (a<s)) (some (decide (s<d)))).bind fun v=>bif v then(f L a s d).bind fun y=>(hY (decide (d<e)) (some (decide (e<b)))).bind fun v=>bif v then(f y.2 d e b).bind fun y=>some ((),y.2) else some ((),y.2)
  else(hY (decide (d<e)) (some (decide (e<b)))).bind fun v=>bif v then(f L d e b).bind fun y=>some ((),y.2) else some ((),L)
def NK (f:List α->Int->Int->Int->Option (Unit×List α)) (L:List α) (a m b:Int):Int×Int->Option (Unit×List α):=fun s=>
 (hY (decide (s.1<m)) (some (decide (m<IntKind.i64.wrap (IntKind.i64.wrap (ri a b+m) - s.1))))).bind fun v=>bif v then(Pk L s.1 m (IntKind.i64.wrap (IntKind.i64.wrap (ri a b+m) - s.1))).bind fun y=>Kt f y.2 a s.1 (ri a b) (IntKind.i64.wrap (IntKind.i64.wrap (ri a b+m) - s.1)) b
  else Kt f L a s.1 (ri a b) (IntKind.i64.wrap (IntKind.i64.wrap (ri a b+m) - s.1)) b
def QW (c:α->α->Option Int) (f:List α->Int->Int->Int->Option (Unit×List α)) (L:List α) (a m b:Int):Option (Unit×List α):=
 bif decide (IntKind.i64.wrap (m - a)=1) then(bJ (LU c L (fun h=>h) (fun _=>a) (fun x=>decide (x<0))) (m,b)).bind (bX fun s=>(bJ (RX s.1) (L,a)).bind (bX fun s=>some ((),s.1)))
 else bif decide (IntKind.i64.wrap (b - m)=1) then(bJ (LU c L (fun _=>m) (fun h=>h) (fun x=> !decide (x<0))) (a,m)).bind (bX fun s=>(bJ (Rg s.1) (L,m)).bind (bX fun s=>some ((),s.1)))
 else iZ (IE .u64 1) (bif decide (ri a b<m) then(bJ (LU c L (fun h=>IntKind.i64.wrap (IntKind.i64.wrap (IntKind.i64.wrap (ri a b+m) - 1) - h)) (fun h=>h) (fun x=> !decide (x<0))) (IntKind.i64.wrap (IntKind.i64.wrap (ri a b+m) - b),ri a b)).bind (bX (NK f L a m b))
  else(bJ (LU c L (fun h=>IntKind.i64.wrap (IntKind.i64.wrap (IntKind.i64.wrap (ri a b+m) - 1) - h)) (fun h=>h) (fun x=> !decide (x<0))) (a,m)).bind (bX (NK f L a m b)))
def LD (c:α->α->Option Int):Nat->List α->Int->Int->Int->Option (Unit×List α)
 |0=>fun _ _ _ _=>none
 |fu+1=>QW c (LD c fu)
theorem NL (A U V B:List α) (k:Nat) (h:k<U.length):(A++U++V++B)[A.length+k]?=U[k]?:=by
 rw[S4,S4,TK oM,show A.length+k - A.length=k by omega,TZ h]
theorem NM (A U V B:List α) (k:Nat) (h:k<V.length):(A++U++V++B)[A.length+U.length+k]?=V[k]?:=by
 rw[S4,TK oS,SW,show A.length+U.length+k - (A.length+U.length)=k by omega,TZ h]
def Iu (Q:α->Prop) (lt:α->α->Bool) (n:Nat) (f:List α->Int->Int->Int->Option (Unit×List α)):Prop:=∀ A U V B:List α,U≠[]->V≠[]->(∀ u∈U,Q u)->(∀ v∈V,Q v)->qQ lt U->qQ lt V->U.length+V.length<=n->A.length+U.length+V.length+B.length<=1152921504606846976->
 ∃ W,f (A++U++V++B) ((A.length:Nat):Int) ((A.length+U.length:Nat):Int) ((A.length+U.length+V.length:Nat):Int)=some ((),A++W++B)/\qQ lt W/\SP lt (U++V) W
theorem Ku (x y:Bool):hY x (some y)=some (x&&y):=by cases x<;>rfl
theorem Iv {Q:α->Prop} {lt:α->α->Bool} {f:List α->Int->Int->Int->Option (Unit×List α)} (hr:Iu Q lt n f) (A U V B:List α) (m:∀ u∈U,Q u) (j:∀ v∈V,Q v) (hU:qQ lt U) (hV:qQ lt V) (hn:U.length+V.length<=n) (hb:A.length+U.length+V.length+B.length<=1152921504606846976) (k:Unit×List α->Option (Unit×List α)) (K:Option (Unit×List α)) (hK:K=k ((),A++U++V++B)):
  ∃ W,((hY (decide (((A.length:Nat):Int)<((A.length+U.length:Nat):Int))) (some (decide (((A.length+U.length:Nat):Int)<((A.length+U.length+V.length:Nat):Int))))).bind fun v=>bif v then(f (A++U++V++B) ((A.length:Nat):Int) ((A.length+U.length:Nat):Int) ((A.length+U.length+V.length:Nat):Int)).bind k else K)=k ((),A++W++B)/\qQ lt W/\SP lt (U++V) W:=by
 rw[Ku,SQ]
 cases U with
 |nil=>
  refine⟨V, ?_,hV,SP.refl _ _⟩
  have:decide (((A.length:Nat):Int)<((A.length+([]:List α).length:Nat):Int))=false:=by simp
  rw[this,hK];simp
 |cons u U=>
  cases V with
  |nil=>
   refine⟨u::U, ?_,hU,by simpa using SP.refl lt (u::U)⟩
   have:decide (((A.length+(u::U).length:Nat):Int)<((A.length+(u::U).length+([]:List α).length:Nat):Int))=false:=by simp
   rw[this,hK];simp
  |cons v V=>
   obtain⟨W,h1,h2⟩:=hr A (u::U) (v::V) B oS oS m j hU hV hn hb
   refine⟨W, ?_,h2⟩
   have e1:decide (((A.length:Nat):Int)<((A.length+(u::U).length:Nat):Int))=true:=by simp;omega
   have e2:decide (((A.length+(u::U).length:Nat):Int)<((A.length+(u::U).length+(v::V).length:Nat):Int))=true:=by simp;omega
   rw[e1,e2,h1];rfl
theorem NN {Q:α->Prop} {lt:α->α->Bool} {f:List α->Int->Int->Int->Option (Unit×List α)} (hr:Iu Q lt n f) (A i l j o B:List α) (N:∀ u∈i,Q u) (H:∀ u∈l,Q u) (q3:∀ u∈j,Q u) (q4:∀ u∈o,Q u) (h1:qQ lt i) (h2:qQ lt l) (E:qQ lt j) (h4:qQ lt o) (s4:i.length+l.length<=n) (r0:j.length+o.length<=n) (hb:A.length+i.length+l.length+j.length+o.length+B.length<=1152921504606846976) (a s d e b:Int) (ha:a=(A.length:Nat)) (hs:s=((A.length+i.length:Nat):Int)) (Z:d=((A.length+i.length+l.length:Nat):Int)) (J:e=((A.length+i.length+l.length+j.length:Nat):Int)) (q:b=((A.length+i.length+l.length+j.length+o.length:Nat):Int)):
  ∃ c p,Kt f (A++i++l++j++o++B) a s d e b=some ((),A++c++p++B)/\qQ lt c/\SP lt (i++l) c/\qQ lt p/\SP lt (j++o) p:=by
 obtain⟨c,g1,g2,g3⟩:=Iv hr A i l (j++o++B) N H h1 h2 s4 oT (fun y=>(hY (decide (d<e)) (some (decide (e<b)))).bind fun v=>bif v then(f y.2 d e b).bind fun y=>some ((),y.2) else some ((),y.2))
  ((hY (decide (d<e)) (some (decide (e<b)))).bind fun v=>bif v then(f (A++i++l++(j++o++B)) d e b).bind fun y=>some ((),y.2) else some ((),A++i++l++(j++o++B))) rfl
 have Y:c.length=i.length+l.length:=by rw[<-g3.1.length_eq,SW]
 obtain⟨p,k1,k2,k3⟩:=Iv hr (A++c) j o B q3 q4 E h4 r0 (by rw[SW];omega) (fun y=>some ((),y.2)) (some ((),A++c++j++o++B)) rfl
 refine⟨c,p, ?_,g2,g3,k2,k3⟩
 unfold Kt
 have K:A++i++l++j++o++B=A++i++l++(j++o++B):=by simp
 rw[K]
 rw[<-hs,<-Z,<-ha] at g1
 rw[g1]
 rw[show(A++c).length+j.length=A.length+i.length+l.length+j.length by rw[SW];omega,show(A++c).length=A.length+i.length+l.length by rw[SW];omega,<-J,<-Z,<-q] at k1
 rw[show A++c++(j++o++B)=A++c++j++o++B by simp]
 exact k1
theorem LE {lt:α->α->Bool} (O:tf lt) {U V c p:List α} {k l:Nat} (hU:qQ lt U) (hV:qQ lt V) (c1:k=0\/V.length<=l\/∃ u v,U[k - 1]?=some u/\V[l]?=some v/\lt v u=false) (z:l=0\/U.length<=k\/∃ u v,V[l - 1]?=some v/\U[k]?=some u/\lt v u=true) (h1:qQ lt c) (h2:SP lt (U.take k++V.take l) c) (E:qQ lt p) (h4:SP lt (U.drop k++V.drop l) p):qQ lt (c++p)/\SP lt (U++V) (c++p):=by
 have o:∀ u∈U.take k,∀ v∈V.drop l,lt v u=false:=by
  rcases c1 with rfl|h|⟨u,v,g1,g2,g3⟩
  ·simp
  ·rw[UB h];simp
  ·intro i j
   have M:lt v i=false:=yg hU (P:=fun w=>lt v w=false) O (fun w w' h g=>O.tr w' w v h g) (.inr ⟨u,g1,g3⟩) i j
   exact AF hV (P:=fun w=>lt w i=false) (fun w w' h g=>O.tr i w w' g h) (.inr ⟨v,g2,M⟩)
 have d2:∀ u∈U.drop k,∀ v∈V.take l,lt v u=true:=by
  rcases z with rfl|h|⟨u,v,g1,g2,g3⟩
  ·simp
  ·rw[UB h];simp
  ·intro i j
   have M:lt v i=true:=AF hU (P:=fun w=>lt v w=true) (fun w w' h g=>O.lt_right h g) (.inr ⟨u,g2,g3⟩) i j
   exact yg hV (P:=fun w=>lt w i=true) O (fun w w' h g=>O.lt_left h g) (.inr ⟨v,g1,M⟩)
 have d:qQ lt (U.take k++U.drop k):=by rwa[Tf]
 have s:qQ lt (V.take l++V.drop l):=by rwa[Tf]
 have f:=(lS.1 d).2.2
 have m:=(lS.1 s).2.2
 refine⟨lS.2 ⟨h1,E,fun a ha b hb=> ?_⟩, ?_⟩
 ·rcases Ta.1 (h2.1.symm.subset ha) with ha|ha<;>rcases Ta.1 (h4.1.symm.subset hb) with hb|hb
  ·exact f a ha b hb
  ·exact o a ha b hb
  ·exact O.asym _ _ (d2 b hb a ha)
  ·exact m a ha b hb
 ·have e:U++V=U.take k++(U.drop k++V.take l)++V.drop l:=by
   rw[<-S4,Tf,S4,Tf]
  rw[e]
  refine((SP.refl lt (U.take k)).app (SP.swap O d2)).app (SP.refl lt (V.drop l))|>.trans ?_
  rw[show U.take k++(V.take l++U.drop k)++V.drop l=(U.take k++V.take l)++(U.drop k++V.drop l) by simp]
  exact h2.app h4
theorem LF {Q:α->Prop} {lt:α->α->Bool} (O:tf lt) {f:List α->Int->Int->Int->Option (Unit×List α)} (hr:Iu Q lt n f) (A U V B:List α) (m:∀ u∈U,Q u) (j:∀ v∈V,Q v) (hU:qQ lt U) (hV:qQ lt V) (hb:A.length+U.length+V.length+B.length<=1152921504606846976) (r k l:Nat) (hk:r=A.length+k) (qg:k<=U.length) (b:l<=V.length) (q:A.length+k+l=(A.length+(A.length+U.length+V.length))/2) (hn:U.length+V.length<=2 * n) (c1:k=0\/V.length<=l\/∃ u v,U[k - 1]?=some u/\V[l]?=some v/\lt v u=false) (z:l=0\/U.length<=k\/∃ u v,V[l - 1]?=some v/\U[k]?=some u/\lt v u=true):
  ∃ W,NK f (A++U++V++B) ((A.length:Nat):Int) ((A.length+U.length:Nat):Int) ((A.length+U.length+V.length:Nat):Int) ((r:Int),(r:Int))=some ((),A++W++B)/\qQ lt W/\SP lt (U++V) W:=by
 have o:(U.take k).length=k:=by rw[Tc];omega
 have e:(U.drop k).length=U.length - k:=TH
 have g:(V.take l).length=l:=by rw[Tc];omega
 have t:(V.drop l).length=V.length - l:=TH
 have d:qQ lt (U.take k++U.drop k):=by rwa[Tf]
 have s:qQ lt (V.take l++V.drop l):=by rwa[Tf]
 have a:ri ((A.length:Nat):Int) ((A.length+U.length+V.length:Nat):Int)=((A.length+k+l:Nat):Int):=by rw[CR _ _ oM,q]
 have w:IntKind.i64.wrap (IntKind.i64.wrap (((A.length+k+l:Nat):Int)+((A.length+U.length:Nat):Int)) - (r:Int))=((A.length+U.length+l:Nat):Int):=by
  rw[bp (((A.length+k+l:Nat):Int)+((A.length+U.length:Nat):Int)) oM oM,bp _ oM oM];omega
 obtain⟨c,p,i,t2,t3,t4,t5⟩:=NN hr A (U.take k) (V.take l) (U.drop k) (V.drop l) B (fun u h=>m u (Tm h)) (fun u h=>j u (Tm h)) (fun u h=>m u (TE h)) (fun u h=>j u (TE h)) (lS.1 d).1 (lS.1 s).1 (lS.1 d).2.1 (lS.1 s).2.1 oM oM oM
  ((A.length:Nat):Int) (r:Int) ((A.length+k+l:Nat):Int) ((A.length+U.length+l:Nat):Int) ((A.length+U.length+V.length:Nat):Int) rfl oM oM oM oM
 obtain⟨m1,m2⟩:=LE O hU hV c1 z t2 t3 t4 t5
 refine⟨c++p, ?_,m1,m2⟩
 unfold NK
 dsimp only
 rw[a,w,Ku,SQ,show A++(c++p)++B=A++c++p++B by simp,<-i]
 have K:A++U++V++B=(A++U.take k)++U.drop k++V.take l++(V.drop l++B):=by
  have x:A++U++V++B=A++(U.take k++U.drop k)++(V.take l++V.drop l)++B:=by rw[Tf,Tf]
  rw[x];simp only[S4]
 by_cases hc:k<U.length/\0<l
 ·have e1:decide ((r:Int)<((A.length+U.length:Nat):Int))=true:=by simp;omega
  have e2:decide (((A.length+U.length:Nat):Int)<((A.length+U.length+l:Nat):Int))=true:=by simp;omega
  rw[e1,e2,K,Pl (A++U.take k) (U.drop k) (V.take l) (V.drop l++B) _ _ _ (by intro h0;rw[h0] at e;simp at e;omega) (by intro h0;rw[h0] at g;simp at g;omega) (by simp only[SW];omega) (by rw[SW];omega) (by rw[SW];omega) (by rw[SW];omega)]
  simp
 ·have e1:(decide ((r:Int)<((A.length+U.length:Nat):Int))&&decide (((A.length+U.length:Nat):Int)<((A.length+U.length+l:Nat):Int)))=false:=by
   rw[TU,Ts,Ts];omega
  rw[e1,K]
  have e2:(A++U.take k)++U.drop k++V.take l++(V.drop l++B)=A++U.take k++V.take l++U.drop k++V.drop l++B:=by
   rcases Nat.eq_zero_or_pos l with rfl|hl
   ·simp
   ·rw[UB (show U.length<=k by omega)];simp only[S4,Tb]
  rw[e2];rfl
end
end
section
variable {α:Type}
theorem NO {Q:α->Prop} {c:α->α->Option Int} {lt:α->α->Bool} (O:tf lt) (hc:Kq Q c lt) {n:Nat} {f:List α->Int->Int->Int->Option (Unit×List α)} (hr:Iu Q lt n f) (A U V B:List α) (m:∀ u∈U,Q u) (j:∀ v∈V,Q v) (hU:qQ lt U) (hV:qQ lt V) (hb:A.length+U.length+V.length+B.length<=1152921504606846976) (hn:U.length+V.length<=2 * n) (lo hi d:Nat) (b:d=(A.length+(A.length+U.length+V.length))/2) (h1:A.length<=lo) (h2:lo<=hi) (E:hi<=A.length+U.length) (h4:hi<=d) (h5:d+(A.length+U.length)<=A.length+U.length+V.length+lo) (h6:lo=A.length\/d+(A.length+U.length)=A.length+U.length+V.length+lo) (h7:hi=A.length+U.length\/hi=d):
  ∃ W,(bJ (LU c (A++U++V++B) (fun h=>IntKind.i64.wrap (IntKind.i64.wrap (IntKind.i64.wrap (ri ((A.length:Nat):Int) ((A.length+U.length+V.length:Nat):Int)+((A.length+U.length:Nat):Int)) - 1) - h)) (fun h=>h) (fun x=> !decide (x<0))) ((lo:Int),(hi:Int))).bind (bX (NK f (A++U++V++B) ((A.length:Nat):Int) ((A.length+U.length:Nat):Int) ((A.length+U.length+V.length:Nat):Int)))=some ((),A++W++B)/\qQ lt W/\SP lt (U++V) W:=by
 have a:ri ((A.length:Nat):Int) ((A.length+U.length+V.length:Nat):Int)=((d:Nat):Int):=by rw[CR _ _ oM,b]
 let q:Nat->Bool:=fun h=>match U[h - A.length]?,V[d - 1 - h]? with
  |some u,some v=> !lt v u
  |_,_=>true
 have hx:∀ h,lo<=h->h<hi->∃ u v,U[h - A.length]?=some u/\V[d - 1 - h]?=some v/\q h= !lt v u:=by
  intro h g1 g2
  have M:h - A.length<U.length:=by omega
  have a2:d - 1 - h<V.length:=by omega
  refine⟨_,_,S3 M,S3 a2, ?_⟩
  simp only[q,S3 M,S3 a2]
 obtain⟨r,r1,r2,r3,r4,r5⟩:=Jy (R:=Unit×List α) (c:=c) (L:=A++U++V++B) (I:=fun h=>IntKind.i64.wrap (IntKind.i64.wrap (IntKind.i64.wrap (ri ((A.length:Nat):Int) ((A.length+U.length+V.length:Nat):Int)+((A.length+U.length:Nat):Int)) - 1) - h)) (J:=fun h=>h) (T:=fun x=> !decide (x<0)) q lo hi oM (by
  intro h g1 g2
  obtain⟨u,v,e1,e2,e3⟩:=hx h g1 g2
  have b1:=NL A U V B (h - A.length) oM
  have b2:=NM A U V B (d - 1 - h) oM
  rw[e1] at b1
  rw[e2] at b2
  obtain⟨z,p,z2⟩:=Ew hc (j v (ST e2)) (m u (ST e1)) b2 b1
  refine⟨z,fun{R} k=> ?_,by rw[e3,<-z2]⟩
  rw[a,bp (((d:Nat):Int)+((A.length+U.length:Nat):Int)) oM oM,bp (((d:Nat):Int)+((A.length+U.length:Nat):Int) - 1) oM oM,bp _ oM oM,
   show(((d:Nat):Int)+((A.length+U.length:Nat):Int) - 1 - (h:Int))=((A.length+U.length+(d - 1 - h):Nat):Int) by omega,show(h:Int)=((A.length+(h - A.length):Nat):Int) by omega]
  exact p k) (hi - lo) lo hi oM (S0 _) h2 (S0 _) (.inl rfl) (.inl rfl)
 rw[r3]
 refine LF O hr A U V B m j hU hV hb r (r - A.length) (d - r) oM oM oM oM hn ?_ ?_
 ·rcases r4 with r4|r4
  ·rcases h6 with h6|h6
   ·exact .inl oM
   ·exact .inr (.inl oM)
  ·rcases Up r1 with r1|r1
   ·obtain⟨u,v,e1,e2,e3⟩:=hx (r - 1) oM oM
    refine .inr (.inr ⟨u,v, ?_, ?_, ?_⟩)
    ·rw[show r - A.length - 1=r - 1 - A.length by omega];exact e1
    ·rw[show d - r=d - 1 - (r - 1) by omega];exact e2
    ·rw[e3] at r4;simpa using r4
   ·rcases h6 with h6|h6
    ·exact .inl oM
    ·exact .inr (.inl oM)
 ·rcases r5 with r5|r5
  ·rcases h7 with h7|h7
   ·exact .inr (.inl oM)
   ·exact .inl oM
  ·rcases Up r2 with r2|r2
   ·obtain⟨u,v,e1,e2,e3⟩:=hx r oM oM
    refine .inr (.inr ⟨u,v, ?_,e1, ?_⟩)
    ·rw[show d - r - 1=d - 1 - r by omega];exact e2
    ·rw[e3] at r5;simpa using r5
   ·rcases h7 with h7|h7
    ·exact .inr (.inl oM)
    ·exact .inl oM
theorem Pm {Q:α->Prop} {c:α->α->Option Int} {lt:α->α->Bool} (O:tf lt) (hc:Kq Q c lt) (A V B:List α) (x:α) (qx:Q x) (j:∀ v∈V,Q v) (hV:qQ lt V) (hb:A.length+V.length+B.length+1<=1152921504606846976):
  ∃ W,(bJ (LU c (A++[x]++V++B) (fun h=>h) (fun _=>((A.length:Nat):Int)) (fun x=>decide (x<0))) (((A.length+1:Nat):Int),((A.length+1+V.length:Nat):Int))).bind (bX fun s=>(bJ (RX s.1) ((A++[x]++V++B),((A.length:Nat):Int))).bind (bX fun s=>some ((),s.1)))=some ((),A++W++B)/\qQ lt W/\SP lt ([x]++V) W:=by
 let q:Nat->Bool:=fun h=>match V[h - (A.length+1)]? with
  |some v=>lt v x
  |_=>true
 have hx:∀ h,A.length+1<=h->h<A.length+1+V.length->∃ v,V[h - (A.length+1)]?=some v/\q h=lt v x:=by
  intro h g1 g2
  have a2:h - (A.length+1)<V.length:=by omega
  refine⟨_,S3 a2, ?_⟩
  simp only[q,S3 a2]
 obtain⟨r,r1,r2,r3,r4,r5⟩:=Jy (R:=Unit×List α) (c:=c) (L:=A++[x]++V++B) (I:=fun h=>h) (J:=fun _=>((A.length:Nat):Int)) (T:=fun x=>decide (x<0)) q (A.length+1) (A.length+1+V.length) oM (by
  intro h g1 g2
  obtain⟨v,e2,e3⟩:=hx h g1 g2
  have b1:=NL A [x] V B 0 oS
  have b2:=NM A [x] V B (h - (A.length+1)) oM
  rw[e2] at b2
  obtain⟨z,p,z2⟩:=Ew hc (j v (ST e2)) qx b2 b1
  refine⟨z,fun{R} k=> ?_,by rw[e3,<-z2]⟩
  rw[show(h:Int)=((A.length+[x].length+(h - (A.length+1)):Nat):Int) by simp only[S6,TN];omega]
  exact p k) V.length (A.length+1) (A.length+1+V.length) oM (S0 _) oM (S0 _) (.inl rfl) (.inl rfl)
 have d:∀ v∈V.take (r - (A.length+1)),lt v x=true:=yg hV (P:=fun w=>lt w x=true) O (fun w w' h g=>O.lt_left h g) (by
  rcases Up r1 with r1|r1
  ·rcases r4 with r4|r4
   ·exact .inl oM
   ·obtain⟨v,e2,e3⟩:=hx (r - 1) oM oM
    exact .inr ⟨v,by rw[show r - (A.length+1) - 1=r - 1 - (A.length+1) by omega];exact e2,by rw[<-e3];exact r4⟩
  ·exact .inl oM)
 have C:∀ v∈V.drop (r - (A.length+1)),lt v x=false:=AF hV (P:=fun w=>lt w x=false) (fun w w' h g=>O.tr x w w' g h) (by
  rcases Up r2 with r2|r2
  ·rcases r5 with r5|r5
   ·exact .inl oM
   ·obtain⟨v,e2,e3⟩:=hx r oM oM
    exact .inr ⟨v,e2,by rw[<-e3];exact r5⟩
  ·exact .inl oM)
 have hk:(V.take (r - (A.length+1))).length=r - (A.length+1):=by rw[Tc];omega
 have e:=Tf (r - (A.length+1)) V
 generalize V.take (r - (A.length+1))=l at *
 generalize V.drop (r - (A.length+1))=o at *
 subst e
 have hs:=lS.1 hV
 refine⟨l++x::o, ?_, ?_, ?_⟩
 ·rw[r3]
  simp only[SQ,bX]
  rw[show A++[x]++(l++o)++B=A++x::l++(o++B) by simp,NI x (o++B) l A r (by simp only[SW] at hb;omega) oM]
  simp[bX]
 ·exact lS.2 ⟨hs.1,Ud.2 ⟨C,hs.2.1⟩,fun a ha b hb=>by
   rcases S9.1 hb with rfl|hb
   ·exact O.asym _ _ (d a ha)
   ·exact hs.2.2 a ha b hb⟩
 ·rw[<-S4,show l++x::o=(l++[x])++o by simp]
  exact(SP.swap O (fun u hu v hv=>by rw[Td.1 hu];exact d v hv)).app (SP.refl lt o)
theorem Pn {Q:α->Prop} {c:α->α->Option Int} {lt:α->α->Bool} (O:tf lt) (hc:Kq Q c lt) (A U B:List α) (y:α) (qy:Q y) (m:∀ u∈U,Q u) (hU:qQ lt U) (hb:A.length+U.length+B.length+1<=1152921504606846976):
  ∃ W,(bJ (LU c (A++U++[y]++B) (fun _=>((A.length+U.length:Nat):Int)) (fun h=>h) (fun x=> !decide (x<0))) (((A.length:Nat):Int),((A.length+U.length:Nat):Int))).bind (bX fun s=>(bJ (Rg s.1) ((A++U++[y]++B),((A.length+U.length:Nat):Int))).bind (bX fun s=>some ((),s.1)))=some ((),A++W++B)/\qQ lt W/\SP lt (U++[y]) W:=by
 let q:Nat->Bool:=fun h=>match U[h - A.length]? with
  |some u=> !lt y u
  |_=>true
 have hx:∀ h,A.length<=h->h<A.length+U.length->∃ u,U[h - A.length]?=some u/\q h= !lt y u:=by
  intro h g1 g2
  have a2:h - A.length<U.length:=by omega
  refine⟨_,S3 a2, ?_⟩
  simp only[q,S3 a2]
 obtain⟨r,r1,r2,r3,r4,r5⟩:=Jy (R:=Unit×List α) (c:=c) (L:=A++U++[y]++B) (I:=fun _=>((A.length+U.length:Nat):Int)) (J:=fun h=>h) (T:=fun x=> !decide (x<0)) q A.length (A.length+U.length) oM (by
  intro h g1 g2
  obtain⟨v,e2,e3⟩:=hx h g1 g2
  have b1:=NM A U [y] B 0 oS
  have b2:=NL A U [y] B (h - A.length) oM
  rw[e2] at b2
  obtain⟨z,p,z2⟩:=Ew hc qy (m v (ST e2)) b1 b2
  refine⟨z,fun{R} k=> ?_,by rw[e3,<-z2]⟩
  rw[show(h:Int)=((A.length+(h - A.length):Nat):Int) by omega]
  exact p k) U.length A.length (A.length+U.length) oM (S0 _) oM (S0 _) (.inl rfl) (.inl rfl)
 have d:∀ v∈U.take (r - A.length),lt y v=false:=yg hU (P:=fun w=>lt y w=false) O (fun w w' h g=>O.tr w' w y h g) (by
  rcases Up r1 with r1|r1
  ·rcases r4 with r4|r4
   ·exact .inl oM
   ·obtain⟨v,e2,e3⟩:=hx (r - 1) oM oM
    exact .inr ⟨v,by rw[show r - A.length - 1=r - 1 - A.length by omega];exact e2,by rw[e3] at r4;simpa using r4⟩
  ·exact .inl oM)
 have C:∀ v∈U.drop (r - A.length),lt y v=true:=AF hU (P:=fun w=>lt y w=true) (fun w w' h g=>O.lt_right h g) (by
  rcases Up r2 with r2|r2
  ·rcases r5 with r5|r5
   ·exact .inl oM
   ·obtain⟨v,e2,e3⟩:=hx r oM oM
    exact .inr ⟨v,e2,by rw[e3] at r5;simpa using r5⟩
  ·exact .inl oM)
 have hk:(U.take (r - A.length)).length=r - A.length:=by rw[Tc];omega
 have e:=Tf (r - A.length) U
 generalize U.take (r - A.length)=i at *
 generalize U.drop (r - A.length)=j at *
 subst e
 have hs:=lS.1 hU
 refine⟨i++y::j, ?_, ?_, ?_⟩
 ·rw[r3]
  simp only[SQ,bX]
  have:=NJ y (A++i) j.length j B (S0 _) (by simp only[SW] at hb⊢;omega)
  rw[show A++(i++j)++[y]++B=A++i++j++y::B by simp,show A.length+(i++j).length=(A++i).length+j.length by simp;omega,show r=(A++i).length by rw[SW];omega,this]
  simp[bX]
 ·exact lS.2 ⟨hs.1,Ud.2 ⟨fun v hv=>O.asym _ _ (C v hv),hs.2.1⟩,fun a ha b hb=>by
   rcases S9.1 hb with rfl|hb
   ·exact d a ha
   ·exact hs.2.2 a ha b hb⟩
 ·rw[S4]
  exact(SP.refl lt i).app (SP.swap O (fun u hu v hv=>by rw[Td.1 hv];exact C u hu))
theorem Po {Q:α->Prop} {c:α->α->Option Int} {lt:α->α->Bool} (O:tf lt) (hc:Kq Q c lt):∀ fu,Iu Q lt (2^fu) (LD c fu):=by
 intro fu
 induction fu with
 |zero=>
  intro A U V B hU hV _ _ _ _ hn _
  have:=UA.2 hU
  have:=UA.2 hV
  simp at hn;omega
 |succ fu ih=>
  intro A U V B hU hV m j d s hn hb
  have k:=UA.2 hU
  have q:=UA.2 hV
  rw[Nat.pow_succ] at hn
  have w1:IntKind.i64.wrap (((A.length+U.length:Nat):Int) - ((A.length:Nat):Int))=((U.length:Nat):Int):=by rw[bp _ oM oM];omega
  have g:IntKind.i64.wrap (((A.length+U.length+V.length:Nat):Int) - ((A.length+U.length:Nat):Int))=((V.length:Nat):Int):=by rw[bp _ oM oM];omega
  show∃ W,QW c (LD c fu) _ _ _ _=_/\_
  unfold QW
  rw[w1,g]
  rcases Th 1 U.length with h1|h1
  ·have o:decide (((U.length:Nat):Int)=1)=false:=by simp;omega
   rw[o]
   rcases Th 1 V.length with h2|h2
   ·have d2:decide (((V.length:Nat):Int)=1)=false:=by simp;omega
    rw[d2]
    have a:ri ((A.length:Nat):Int) ((A.length+U.length+V.length:Nat):Int)=(((A.length+(A.length+U.length+V.length))/2:Nat):Int):=CR _ _ oM
    show∃ W,(bif decide _ then _ else _)=_/\_
    by_cases Z:(A.length+(A.length+U.length+V.length))/2<A.length+U.length
    ·have f:decide (ri ((A.length:Nat):Int) ((A.length+U.length+V.length:Nat):Int)<((A.length+U.length:Nat):Int))=true:=by rw[a];simp only[SU];omega
     rw[f]
     dsimp only[cond_true]
     have p:IntKind.i64.wrap (IntKind.i64.wrap (ri ((A.length:Nat):Int) ((A.length+U.length+V.length:Nat):Int)+((A.length+U.length:Nat):Int)) - ((A.length+U.length+V.length:Nat):Int))=(((A.length+(A.length+U.length+V.length))/2+(A.length+U.length) - (A.length+U.length+V.length):Nat):Int):=by
      rw[a,bp ((((A.length+(A.length+U.length+V.length))/2:Nat):Int)+((A.length+U.length:Nat):Int)) oM oM,bp _ oM oM];omega
     have:=NO O hc ih A U V B m j d s hb oM ((A.length+(A.length+U.length+V.length))/2+(A.length+U.length) - (A.length+U.length+V.length)) ((A.length+(A.length+U.length+V.length))/2) ((A.length+(A.length+U.length+V.length))/2) rfl oM oM oM oM oM (.inr oM) (.inr rfl)
     rw[p]
     rw[<-a] at this
     exact this
    ·have f:decide (ri ((A.length:Nat):Int) ((A.length+U.length+V.length:Nat):Int)<((A.length+U.length:Nat):Int))=false:=by rw[a];simp only[Ts];omega
     rw[f]
     dsimp only[cond_false]
     exact NO O hc ih A U V B m j d s hb oM A.length (A.length+U.length) ((A.length+(A.length+U.length+V.length))/2) rfl oM oM oM oM oM (.inl rfl) (.inl rfl)
   ·have hv:V.length=1:=by omega
    have d2:decide (((V.length:Nat):Int)=1)=true:=by rw[hv];rfl
    rw[d2]
    dsimp only[cond_true,cond_false]
    match V,hv with
    |[y],_=>exact Pn O hc A U B y (j y oS) m d (by simp at hb;omega)
  ·have hu:U.length=1:=by omega
   have o:decide (((U.length:Nat):Int)=1)=true:=by rw[hu];rfl
   rw[o]
   dsimp only[cond_true]
   match U,hu with
   |[x],_=>exact Pm O hc A V B x (m x oS) j s (by simp at hb;omega)
end
noncomputable section
variable {bs fu:Nat}
section
variable {α:Type}
inductive CI (lt:α->α->Bool) (bs:Nat):List α->Prop
 |last {U:List α}:U.length<=bs->qQ lt U->CI lt bs U
 |cons {U L:List α}:U.length=bs->qQ lt U->CI lt bs L->CI lt bs (U++L)
theorem CI.split {lt:α->α->Bool} {T:List α} (h:CI lt bs T) (hl:bs<=T.length):∃ U L,T=U++L/\U.length=bs/\qQ lt U/\CI lt bs L:=by
 cases h with
 |last h1 h2=>exact⟨T,[],by simp,by omega,h2,.last oS List.Pairwise.nil⟩
 |cons h1 h2 E=>exact⟨_,_,rfl,h1,h2,E⟩
theorem CI.one {lt:α->α->Bool} {T:List α} (h:CI lt bs T) (hl:T.length<=bs):qQ lt T:=by
 cases h with
 |last h1 h2=>exact h2
 | @cons U L h1 h2 E=>
  rw[SW] at hl
  have:L=[]:=Te.1 oM
  rw[this,Tg];exact h2
def Pp (c:α->α->Option Int) (n:Int):List α×Int×Int->Option ((List α×Int×Int)⊕((List α×Int×Int)⊕(Unit×List α))):=fun s=>
 bif decide (s.2.2<=n) then(LA c s.1 s.2.1 s.2.2).bind fun y=>some (.inl (y.2,s.2.2,IntKind.i64.wrap (s.2.2+20))) else cb (some (.inl (s.1,s.2.1,s.2.2)))
def Pq (c:α->α->Option Int) (fu:Nat) (n bs:Int):List α×Int×Int->Option ((List α×Int×Int)⊕((List α×Int×Int)⊕((List α×Int)⊕((List α×Int)⊕(Unit×List α))))):=fun t=>
 bif decide (t.2.2<=n) then(LD c fu t.1 t.2.1 (IntKind.i64.wrap (t.2.1+bs)) t.2.2).bind fun y=>some (.inl (y.2,t.2.2,IntKind.i64.wrap (t.2.2+IntKind.i64.wrap (2 * bs)))) else cb (some (.inl (t.1,t.2.1,t.2.2)))
def QX (c:α->α->Option Int) (fu:Nat) (n bs:Int):List α×Int×Int->Option ((List α×Int)⊕((List α×Int)⊕(Unit×List α))):=fun t=>
 bif decide (IntKind.i64.wrap (t.2.1+bs)<n) then(LD c fu t.1 t.2.1 (IntKind.i64.wrap (t.2.1+bs)) n).bind fun y=>some (.inl (y.2,IntKind.i64.wrap (bs * 2))) else some (.inl (t.1,IntKind.i64.wrap (bs * 2)))
def LG (c:α->α->Option Int) (fu:Nat) (n:Int):List α×Int->Option ((List α×Int)⊕((List α×Int)⊕(Unit×List α))):=fun s=>
 bif decide (s.2<n) then(bJ (Pq c fu n s.2) (s.1,0,IntKind.i64.wrap (2 * s.2))).bind (bX (QX c fu n s.2)) else cb (some (.inl (s.1,s.2)))
def RY (c:α->α->Option Int) (fu:Nat) (L:List α) (n:Int):Option (Unit×List α):=
 (bJ (Pp c n) (L,0,20)).bind (bX fun s=>(LA c s.1 s.2.1 n).bind fun y=>(bJ (LG c fu n) (y.2,20)).bind (bX fun s=>some ((),s.1)))
theorem LH {Q:α->Prop} {c:α->α->Option Int} {lt:α->α->Bool} (O:tf lt) (hc:Kq Q c lt) (K:List α->Option (Unit×List α)):∀ (k:Nat) (D T:List α) (n:Nat),(∀ x∈T,Q x)->T.length<=k->n=D.length+T.length->n<=137438953472->
  ∃ b,(bJ (Pp c (n:Int)) (D++T,((D.length:Nat):Int),((D.length+20:Nat):Int))).bind (bX fun s=>(LA c s.1 s.2.1 (n:Int)).bind fun y=>K y.2)=K (D++b)/\CI lt 20 b/\SP lt T b:=by
 intro k
 induction k using Nat.strongRecOn with
 |ind k ih=>
  intro D T n hQ hk hn hb
  rcases Th T.length 20 with h|h
  ·have hd:decide (((D.length+20:Nat):Int)<=(n:Int))=false:=by simp;omega
   obtain⟨W,w1,g,p⟩:=Kr O hc D T [] hQ ((D.length:Nat):Int) (n:Int) rfl oM oM
   refine⟨W, ?_,.last (by rw[<-p.1.length_eq];omega) g,p⟩
   rw[fa (a:= .inl (D++T,((D.length:Nat):Int),((D.length+20:Nat):Int)))]
   ·simp only[Tg] at w1
    simp only[SQ,bX,w1]
   ·unfold Pp
    dsimp only
    rw[hd];rfl
  ·have hd:decide (((D.length+20:Nat):Int)<=(n:Int))=true:=by simp;omega
   have e:=Tf 20 T
   have Y:(T.take 20).length=20:=by rw[Tc];omega
   have l2:(T.drop 20).length=T.length - 20:=TH
   generalize T.take 20=U at e Y
   generalize T.drop 20=d at e l2
   subst e
   obtain⟨W,w1,g,p⟩:=Kr O hc D U d (fun x hx=>hQ x (Uh _ hx)) ((D.length:Nat):Int) ((D.length+20:Nat):Int) rfl (by rw[Y]) oM
   have j:W.length=20:=by rw[<-p.1.length_eq,Y]
   obtain⟨b,i,t2,t3⟩:=ih (k - 20) oM (D++W) d n (fun x hx=>hQ x (UG _ hx)) oM (by rw[SW] at hn⊢;omega) hb
   refine⟨W++b, ?_,.cons j g t2,p.app t3⟩
   rw[kc (F:=(D++W++d,(((D++W).length:Nat):Int),(((D++W).length+20:Nat):Int)))]
   ·rw[i,S4]
   ·unfold Pp
    dsimp only
    rw[hd,<-S4,w1,bp _ oM oM,SW,j]
    rfl
theorem LI {Q:α->Prop} {c:α->α->Option Int} {lt:α->α->Bool} (O:tf lt) (hc:Kq Q c lt) (d:137438953472<=2^fu) (bs:Nat) (e:0<bs):∀ (k:Nat) (D T:List α) (n:Nat),(∀ x∈T,Q x)->T.length<=k->n=D.length+T.length->n<=137438953472->bs<=137438953472->CI lt bs T->
  ∃ b,(bJ (Pq c fu (n:Int) (bs:Int)) (D++T,((D.length:Nat):Int),((D.length+2 * bs:Nat):Int))).bind (bX (QX c fu (n:Int) (bs:Int)))=some (.inl (D++b,((2 * bs:Nat):Int)))/\CI lt (2 * bs) b/\SP lt T b:=by
 intro k
 induction k using Nat.strongRecOn with
 |ind k ih=>
  intro D T n hQ hk hn hb s0 f
  have z:=Po O hc fu
  have w5:IntKind.i64.wrap ((bs:Int) * 2)=((2 * bs:Nat):Int):=by rw[bp _ oM oM];omega
  have w6:IntKind.i64.wrap (2 * (bs:Int))=((2 * bs:Nat):Int):=by rw[bp _ oM oM];omega
  have w7:IntKind.i64.wrap (((D.length:Nat):Int)+(bs:Int))=((D.length+bs:Nat):Int):=by rw[bp _ oM oM];omega
  rcases Th T.length (2 * bs) with h|h
  ·have hd:decide (((D.length+2 * bs:Nat):Int)<=(n:Int))=false:=by simp only[Ts];omega
   rw[fa (a:= .inl (D++T,((D.length:Nat):Int),((D.length+2 * bs:Nat):Int)))]
   ·simp only[SQ,bX]
    unfold QX
    dsimp only
    rw[w5,w7]
    rcases Th bs T.length with h2|h2
    ·have G:decide (((D.length+bs:Nat):Int)<(n:Int))=true:=by simp only[SU];omega
     obtain⟨U,L,rfl,Y,p,b1⟩:=f.split oM
     rw[SW] at h h2 hn
     obtain⟨W,g1,g2,g3⟩:=z D U L [] (by intro h0;rw[h0] at Y;simp at Y;omega) (by intro h0;rw[h0] at h2;simp at h2;omega) (fun x hx=>hQ x (Uh _ hx)) (fun x hx=>hQ x (UG _ hx)) p (b1.one oM) oM oT
     refine⟨W, ?_,.last (by rw[<-g3.1.length_eq,SW];omega) g2,g3⟩
     rw[G,show n=D.length+U.length+L.length by omega,<-Y]
     simp only[Tg] at g1
     rw[<-S4,g1]
     rfl
    ·have G:decide (((D.length+bs:Nat):Int)<(n:Int))=false:=by simp only[Ts];omega
     refine⟨T, ?_,.last oM (f.one h2),SP.refl _ _⟩
     rw[G];rfl
   ·unfold Pq
    dsimp only
    rw[hd];rfl
  ·have hd:decide (((D.length+2 * bs:Nat):Int)<=(n:Int))=true:=by simp only[SU];omega
   obtain⟨U,L,rfl,Y,p,b1⟩:=f.split oM
   rw[SW] at h hn hk
   obtain⟨V,L,rfl,l2,s2,b2⟩:=b1.split oM
   rw[SW] at h hn hk
   obtain⟨W,g1,g2,g3⟩:=z D U V L (by intro h0;rw[h0] at Y;simp at Y;omega) (by intro h0;rw[h0] at l2;simp at l2;omega) (fun x hx=>hQ x (by simp[hx])) (fun x hx=>hQ x (by simp[hx])) p s2 oM oM
   have j:W.length=2 * bs:=by rw[<-g3.1.length_eq,SW];omega
   obtain⟨b,i,t2,t3⟩:=ih (k - 2 * bs) oM (D++W) L n (fun x hx=>hQ x (by simp[hx])) oM (by rw[SW];omega) hb s0 b2
   refine⟨W++b, ?_,.cons j g2 t2, ?_⟩
   ·rw[kc (F:=(D++W++L,(((D++W).length:Nat):Int),(((D++W).length+2 * bs:Nat):Int)))]
    ·rw[i,S4]
    ·have w8:IntKind.i64.wrap (((D.length+2 * bs:Nat):Int)+((2 * bs:Nat):Int))=((D.length+2 * bs+2 * bs:Nat):Int):=by rw[bp _ oM oM];omega
     unfold Pq
     dsimp only
     rw[hd,w6,w7,w8,SW,j]
     rw[Y,show D.length+bs+V.length=D.length+2 * bs by omega] at g1
     rw[show D++(U++(V++L))=D++U++V++L by simp,g1]
     rfl
   ·rw[<-S4]
    exact g3.app t3
theorem LJ {Q:α->Prop} {c:α->α->Option Int} {lt:α->α->Bool} (O:tf lt) (hc:Kq Q c lt) (d:137438953472<=2^fu):∀ (k:Nat) (L:List α) (bs:Nat),(∀ x∈L,Q x)->L.length - bs<=k->0<bs->L.length<=137438953472->CI lt bs L->
  ∃ j s,bJ (LG c fu ((L.length:Nat):Int)) (L,(bs:Int))=some (.inl (j,s))/\qQ lt j/\SP lt L j:=by
 intro k
 induction k using Nat.strongRecOn with
 |ind k ih=>
  intro L bs hQ hk h0 hb z
  rcases Th bs L.length with h|h
  ·have hd:decide ((bs:Int)<((L.length:Nat):Int))=true:=by simp only[SU];omega
   have w6:IntKind.i64.wrap (2 * (bs:Int))=((2 * bs:Nat):Int):=by rw[bp _ oM oM];omega
   obtain⟨b,i,t2,t3⟩:=LI O hc d bs h0 L.length [] L L.length hQ (S0 _) oS hb oM z
   have a:=t3.1.length_eq
   obtain⟨j,s,g1,g2,g3⟩:=ih (k - bs) oM b (2 * bs) (fun x hx=>hQ x (t3.1.mem_iff.2 hx)) oM oM oM t2
   refine⟨j,s, ?_,g2,t3.trans g3⟩
   rw[kc (F:=(b,((2 * bs:Nat):Int)))]
   ·rw[a];exact g1
   ·unfold LG
    dsimp only
    rw[hd,w6]
    simp only[TN,Tb,TJ] at i
    exact i
  ·have hd:decide ((bs:Int)<((L.length:Nat):Int))=false:=by simp only[Ts];omega
   refine⟨L,bs,fa ?_,z.one h,SP.refl _ _⟩
   unfold LG
   dsimp only
   rw[hd];rfl
theorem Pr {Q:α->Prop} {c:α->α->Option Int} {lt:α->α->Bool} (O:tf lt) (hc:Kq Q c lt) (d:137438953472<=2^fu) (L:List α) (hQ:∀ x∈L,Q x) (hb:L.length<=137438953472):
  ∃ W,RY c fu L ((L.length:Nat):Int)=some ((),W)/\qQ lt W/\SP lt L W:=by
 obtain⟨b,i,t2,t3⟩:=LH O hc (fun M=>(bJ (LG c fu ((L.length:Nat):Int)) (M,20)).bind (bX fun s=>some ((),s.1))) L.length [] L L.length hQ (S0 _) oS hb
 simp only[TN,Tb,TJ] at i
 have a:=t3.1.length_eq
 obtain⟨j,s,g1,g2,g3⟩:=LJ O hc d b.length b 20 (fun x hx=>hQ x (t3.1.mem_iff.2 hx)) oM oM oM t2
 refine⟨j, ?_,g2,t3.trans g3⟩
 refine Eq.trans i ?_
 rw[<-a] at g1
 have e:bJ (LG c fu ((L.length:Nat):Int)) (b,20)=some (.inl (j,s)):=g1
 rw[e];rfl
end
end
theorem QY:137438953472<=2^FU:=by
 have h:2^37<=2^FU:=Nat.pow_le_pow_right oD (TT oD vw)
 exact TT oD h
section
variable (f:FuncId) (c:List DV) (p:ac->ac->Option Int) (h:∀ a0 M r,p a0 M=some r->aa Tryz.prog f ([.agg (ab a0),.agg (ab M)]++c) (.int .i64 r))
theorem Ex (L:List ac) (x1 x2 d:Int):cB L x1 x2 d f c p h=Eu L x1 x2 d:=by
 unfold cB xY;dsimp only
 rfl
theorem E3 (L:List ac) (x1 x2 d:Int):cP L x1 x2 d f c p h=Pk L x1 x2 d:=by
 unfold cP xZ;dsimp only
 simp only[Ex]
 rfl
theorem E4 (L:List ac) (x1 x2:Int):b9 L x1 x2 f c p h=LA p L x1 x2:=by
 unfold b9 xX;dsimp only
 rfl
theorem E5:∀ (fu:Nat) (L:List ac) (x1 x2 d:Int),bx fu L x1 x2 d f c p h=LD p fu L x1 x2 d:=by
 intro fu
 induction fu with
 |zero=>intro L x1 x2 d;exact gP ..
 |succ fu ih=>
  intro L x1 x2 d
  rw[gR];unfold x0;dsimp only;simp only[gQ]
  simp only[E3,ih]
  rfl
theorem E6 (L:List ac) (n:Int):cQ L n f c p h=RY p FU L n:=by
 unfold cQ x3;dsimp only
 simp only[E4,E5]
 rfl
end
theorem E7 {f:FuncId} {c:List DV} {p:ac->ac->Option Int} (h:∀ a0 M r,p a0 M=some r->aa Tryz.prog f ([.agg (ab a0),.agg (ab M)]++c) (.int .i64 r)) {Q:ac->Prop} {lt:ac->ac->Bool} (O:tf lt) (hc:Kq Q p lt) (L:List ac) (hQ:∀ x∈L,Q x) (hb:L.length<=137438953472):
  ∃ W,aE L f c p h=some ((),W)/\qQ lt W/\SP lt L W:=by
 obtain⟨W,g1,g2⟩:=Pr O hc QY L hQ hb
 refine⟨W, ?_,g2⟩
 unfold aE x4;dsimp only
 rw[E6,g1]
 rfl
end Go.Proofs.YteaolfcegaidpaaGreatDoor
