/-
  Laws on the way to the theorem.
-/
import Derived.Test.YteaolfcegaidpaaGreatDoorBY7
namespace Go.Proofs.YteaolfcegaidpaaGreatDoor
open Go.RowKit
set_option linter.unusedSimpArgs false
set_option linter.unusedVariables false
theorem Ce (s:List UInt8) (k:Int) (h0:s≠[]) (hs:s.length<=1000):nG s k=some (rL k s):=by
 unfold nG g_;dsimp only
 unfold rL
 by_cases k2:k=2
 ·subst k2
  rw[show decide ((2:Int)=2)=true from rfl]
  simp only[OL]
  refine(nh s kS false (fun i e he=> ?_) ?_).trans ?_
  ·have hi:=bI he
   have a2:((decide ((e.toNat:Int)<65)||decide (90<(e.toNat:Int)))&&(decide ((e.toNat:Int)<97)||decide (122<(e.toNat:Int)))&& !decide ((e.toNat:Int)=32))= !kS e:=by
    unfold kS;rw[O1];simp;omega
   simp only[bH hi,OL,av,he,OA,cX,bP,cG i oM,a2]
   cases kS e<;>rfl
  ·simp only[ar,OO];rfl
  ·cases s.all kS<;>rfl
 rw[Ql k2]
 by_cases k3:k=3
 ·subst k3
  rw[xP s oM,jn h0]
  simp
 rw[Ql k3]
 by_cases k4:k=4
 ·subst k4
  obtain⟨d,e,h1,h2⟩:=FS s oM
  rw[h1];simp[h2]
 rw[Ql k4]
 by_cases k5:k=5
 ·subst k5
  obtain⟨d,e,h1,h2⟩:=HE s oM
  rw[h1];simp[h2]
 rw[Ql k5]
 simp[k2,k3,k4,k5]
theorem LS (d:aE):lE d=some (if 50<d.fCodes.length then 2 else pB (wa d) none d.fCodes):=by
 unfold lE mU;dsimp only
 by_cases c4:50<d.fCodes.length
 ·rw[Qa c4,show decide (50<((d.fCodes.length:Nat):Int))=true by simp;omega];rfl
 ·rw[P7 c4,show decide (50<((d.fCodes.length:Nat):Int))=false by simp;omega]
  simp only[OO]
  refine(kR d.fCodes (wa d) (fun n=>n) (fun i e he=> ?_) ?_).trans ?_
  ·have hi:=bI he
   have hp:=FE he oM
   simp only[bH hi,OL]
   rw[show dg d.fCodes (i:Int)=some e by rw[av];exact he]
   simp only[OA]
   rw[hp]
   simp only[OA,AY,cX,cG i oM]
   unfold wa Kq
   by_cases c1:1<=e.length/\e.length<=20
   ·have b1:(decide (((e.length:Nat):Int)<1)||decide (20<((e.length:Nat):Int)))=false:=by simp;omega
    have hne:e≠[]:=fun h=>by rw[h] at c1;simp at c1
    rw[b1,DE e _ _ oM,Ce e d.fType hne oM,PG c1]
    have hrg:e.all (pD (UInt8.ofNat (Int.toNat 33)) (UInt8.ofNat (Int.toNat 126)))=e.all (pD 33 126):=rfl
    rw[hrg]
    simp only[Dl,OO,OA,OZ]
    cases ha:e.all (pD 33 126) with
    |false=>simp only[Po,OL,OA,Bool.and_false];rfl
    |true=>
     simp only[OS,OO,OA,Bool.and_true]
     by_cases c2:d.fMin<=(e.length:Int)/\(e.length:Int)<=d.fMax
     ·have b2:(decide (((e.length:Nat):Int)<d.fMin)||decide (d.fMax<((e.length:Nat):Int)))=false:=by simp;omega
      rw[b2,PG c2]
      simp only[OO,OA,OZ]
      cases rL d.fType e with
      |false=>rfl
      |true=>
       simp only[OS,OO,PR]
       cases Cb (oi d.fCodes i) e<;>rfl
     ·have b2:(decide (((e.length:Nat):Int)<d.fMin)||decide (d.fMax<((e.length:Nat):Int)))=true:=by
       simp only[O3,OC];omega
      rw[b2,Ql c2];rfl
   ·have b1:(decide (((e.length:Nat):Int)<1)||decide (20<((e.length:Nat):Int)))=true:=by
     simp only[O3,OC];omega
    rw[b1,Ql c1];rfl
  ·simp only[ar,OO];rfl
  ·split
   ·rename_i h;rw[h]
   ·rfl
theorem Nc (d:aE):mw d=some (wV d):=by
 unfold mw vf;dsimp only
 simp only[AY,OA,cX,bP,LS]
 unfold wV
 by_cases c1:1<=d.fType/\d.fType<=5
 ·rw[show(decide (d.fType<1)||decide (5<d.fType))=false by simp;omega,P7 (not_not_intro c1)]
  simp only[OO]
  by_cases c2:¬ (1<=d.fMin/\d.fMin<=d.fMax)\/1000<d.fMax
  ·rw[Qa c2,show(decide (d.fMin<1)||decide (d.fMax<d.fMin)||decide (1000<d.fMax))=true by simp only[O3,OC];omega];rfl
  ·rw[P7 c2,show(decide (d.fMin<1)||decide (d.fMax<d.fMin)||decide (1000<d.fMax))=false by simp only[PQ,Pb];omega]
   simp only[OO]
   by_cases c3:d.fType=5/\(8<d.fMin\/d.fMax<8)
   ·rw[Qa c3,show(decide (d.fType=5)&&(decide ((8:Int)<d.fMin)||decide (d.fMax<8)))=true by simp[c3.1];exact c3.2];rfl
   ·rw[P7 c3,show(decide (d.fType=5)&&(decide ((8:Int)<d.fMin)||decide (d.fMax<8)))=false by simp only[PC,Pb,PQ];omega]
    rfl
 ·rw[show(decide (d.fType<1)||decide (5<d.fType))=true by simp only[O3,OC];omega,Qa c1];rfl
theorem Nd (e:aq):jQ e=some (Am e):=by
 unfold jQ vg;dsimp only
 simp only[AY,OA,Ko]
 unfold Am
 by_cases d1:1<=e.fMost/\e.fMost<=20
 ·rw[show(decide (e.fMost<1)||decide (20<e.fMost))=false by simp;omega]
  simp only[OO,d1,and_self,not_true_eq_false,Pp]
  by_cases d2:e.fParts=[]
  ·simp only[d2,PR];rfl
  ·simp only[d2,Pp,Qj,OO]
   by_cases d3:20<e.fParts.length
   ·simp only[d3,PR]
    rw[show decide (20<((e.fParts.length:Nat):Int))=true by simp;omega];rfl
   ·simp only[d3,Pp]
    rw[show decide (20<((e.fParts.length:Nat):Int))=false by simp;omega]
    simp only[OO]
    refine(kR e.fParts (fun _ p=>wV p) (fun n=>n) (fun i e he=> ?_) ?_).trans ?_
    ·have hi':=bI he
     simp only[bH hi',OL,av,he,OA,Nc,cG i oM]
     by_cases hz:wV e=0
     ·simp only[hz,PR,Qh,OS,OO]
     ·simp only[hz,Pp,Qj,Po,OL];rfl
    ·simp only[ar,OO];rfl
    ·split
     ·rename_i h;rw[h]
     ·rfl
 ·rw[show(decide (e.fMost<1)||decide (20<e.fMost))=true by simp only[O3,OC];omega]
  simp only[d1,not_false_eq_true,PR];rfl
theorem Iz {l:List Df} {i:Nat} {e:Df} (he:l[i]?=some e) (hl:l.length<=1000):
  kn (decide (0<(i:Int))) ((dg l (IntKind.i64.wrap ((i:Int) - 1))).bind fun e_1=>some (Op.bytesLess e.fTag e_1.fTag||decide (e.fTag=e_1.fTag)))=some (Cb ((oi l i).map (·.fTag)) e.fTag):=by
 have:=Dz he hl
 rw[av,he] at this
 exact this
theorem Nf (l:List Df) (hl:∀ d∈l,d.fTag.length<=MX):my l=some (nW l):=by
 unfold my vi;dsimp only
 unfold nW
 by_cases c4:100<l.length
 ·rw[Qa c4,show decide (100<((l.length:Nat):Int))=true by simp;omega];rfl
 ·rw[P7 c4,show decide (100<((l.length:Nat):Int))=false by simp;omega]
  simp only[OO]
  refine(kR l Cc (fun n=>n) (fun i e he=> ?_) ?_).trans ?_
  ·have hi':=bI he
   have hm:=OE he
   have hp:=Iz he oM
   simp only[bH hi',OL,av l,he,OA,Hi _ (hl e hm),cG i oM]
   rw[hp]
   unfold Cc
   cases yQ e.fTag with
   |false=>rfl
   |true=>
    simp only[OS,OO,PV,Pp,OA]
    cases Cb ((oi l i).map (·.fTag)) e.fTag with
    |true=>rfl
    |false=>
     simp only[OO,O5,Pp]
     unfold FC
     by_cases c5:50<e.fElements.length
     ·rw[Qa c5,show decide (50<((e.fElements.length:Nat):Int))=true by simp;omega];rfl
     ·rw[P7 c5,show decide (50<((e.fElements.length:Nat):Int))=false by simp;omega]
      simp only[OO]
      refine(kR e.fElements (fun _ e=>Am e) (fun n=> .inr (.inr n)) (fun i e he=> ?_) ?_).trans ?_
      ·have hi':=bI he
       simp only[bH hi',OL,av,he,OA,Nd,cG i oM]
       by_cases hz:Am e=0
       ·simp only[hz,PR,Qh,OS,OO]
       ·simp only[hz,Pp,Qj,Po,OL];rfl
      ·simp only[ar,OO];rfl
      ·rfl
  ·simp only[ar,OO];rfl
  ·split
   ·rename_i h;rw[h]
   ·rfl
theorem DA {α:Type} {st:Option α->α->Int}:∀ {l:List α} {p:Option α},pB st p l=0->∀ (i:Nat) (a b:α),l[i]?=some a->l[i+1]?=some b->st (some a) b=0
 |[],_,_,i,a,b,h,_=>by simp at h
 |x::l,p,h,i,a,b,ha,hb=>by
  unfold pB at h
  by_cases hs:st p x=0
  ·rw[Qa hs] at h
   cases i with
   |zero=>
    simp at ha hb
    subst ha
    cases l with
    |nil=>simp at hb
    |cons y l=>
     simp at hb;subst hb
     unfold pB at h
     by_cases h2:st (some x) y=0
     ·exact h2
     ·rw[P7 h2] at h;exact absurd h h2
   |succ i=>exact DA h i a b (by simpa using ha) (by simpa using hb)
  ·rw[P7 hs] at h;exact absurd h hs
theorem IA {l:List Df} (h:nW l=0):Dy l:=by
 unfold nW at h
 split at h
 ·cases h
 ·intro i a b ha hb
  simp only[O6,Option.map_eq_some_iff] at ha hb
  obtain⟨x,hx,rfl⟩:=ha
  obtain⟨y,hy,rfl⟩:=hb
  have:=DA h i x y hx hy
  unfold Cc at this
  split at this
  ·cases this
  ·split at this
   ·cases this
   ·rename_i _ hbad
    simp only[Cb,Pf,Ot,O3,OC,not_or,P0] at hbad
    rcases Mq y.fTag x.fTag with h|h|h
    ·exact absurd h hbad.2
    ·rw[hbad.1] at h;cases h
    ·exact h
theorem Oo {a b:Nat} (ha:a<=1000) (hb:b<=1000):IntKind.i64.wrap (IntKind.u64.wrap (IntKind.i64.wrap ((a:Int)+(b:Int)))/2)=(((a+b)/2:Nat):Int):=by
 rw[bn ((a:Int)+(b:Int)) oM oM,Ex oM oM,bn _ oM oM]
 omega
theorem Ky (l:List Df) (t:List UInt8) (hr:Dy l) (hl:l.length<=1000) (f2:FuncId) (c2:List DV) (h2:∀ a0 a1 r,eT a0 a1=some r->aa Tryz.prog f2 ([.agg (ak a0),.str a1]++c2) (.int .i64 r)):
  ∃ n,aJ l t f2 c2 eT h2=some (n,bJ l t)/\(bJ l t=true->∃ d,dg l n=some d/\d∈l/\d.fTag=t):=by
 have hcmp:∀ e:Df,eT e t=some (Lib.compareBytes e.fTag t):=fun e=>by
  unfold eT g_;dsimp only
  rfl
 have hlt:∀ {i j:Nat} {a b:Df},i<j->l[i]?=some a->l[j]?=some b->Op.bytesLess a.fTag b.fTag=true:=fun{i j a b} hij ha hb=>by
  exact hr.lt hij (by rw[O6,ha];rfl) (by rw[O6,hb];rfl)
 unfold aJ g_;dsimp only
 have key:=me (X:=Nat×Nat) (R:=Int×Bool) (C:=fun c=>∃ n,c=(n,bJ l t)/\(bJ l t=true->∃ d,dg l n=some d/\d∈l/\d.fTag=t))
  (f:=fun s:Int×Int=>bif decide (s.fst<s.snd) then jV (FP IntKind.u64 1) ((dg l (IntKind.i64.wrap (IntKind.u64.wrap (IntKind.i64.wrap (s.fst+s.snd))/2))).bind fun e=>(eT e t).bind fun x=>bif decide (x<0) then some (Sum.inl (IntKind.i64.wrap (IntKind.i64.wrap (IntKind.u64.wrap (IntKind.i64.wrap (s.fst+s.snd))/2)+1),s.snd)) else some (Sum.inl (s.fst,IntKind.i64.wrap (IntKind.u64.wrap (IntKind.i64.wrap (s.fst+s.snd))/2)))) else cS (some (Sum.inl (s.fst,s.snd))))
  (k:=bX fun s:Int×Int=>(kn (decide (s.fst<(l.length:Int))) ((dg l s.fst).bind fun e=>(eT e t).bind fun x=>some (decide (x=0)))).bind fun v=>some (s.fst,v))
  (fun s=>((s.1:Int),(s.2:Int))) (fun s=>s.2 - s.1) (fun s=>s.1<=s.2/\s.2<=l.length/\(∀ i e,i<s.1->l[i]?=some e->Op.bytesLess e.fTag t=true)/\∀ i e,s.2<=i->l[i]?=some e->Op.bytesLess e.fTag t=false) (by
   rintro⟨a,b⟩ ⟨h1,h2,h3,h4⟩
   simp only at h1 h2 h3 h4⊢
   rcases O2 a b with hab|hab
   ·have hm:(a+b)/2<l.length:=by omega
    obtain⟨e,he⟩:=jw hm
    simp only[Oo (a:=a) (b:=b) oM oM,av,he,OA,hcmp,bH hab,OL,cG ((a+b)/2) oM]
    rw[ey (pe.2 ⟨by omega,by simp[IntKind.bits]⟩)]
    by_cases hc:Op.bytesLess e.fTag t=true
    ·rw[PG (Mb.2 hc)]
     refine .inl ⟨((a+b)/2+1,b),⟨by omega,h2,fun i x hi hx=> ?_,h4⟩,by simp only;omega,rfl⟩
     rcases O2 i ((a+b)/2) with h|h
     ·exact ux (hlt h hx he) hc
     ·have:i=(a+b)/2:=by simp only at hi;omega
      subst this
      rw[he] at hx;simp only[Oy] at hx;subst hx;exact hc
    ·rw[Ql (fun h=>hc (Mb.1 h))]
     refine .inl ⟨(a,(a+b)/2),⟨by omega,by omega,h3,fun i x hi hx=> ?_⟩,by simp only;omega,rfl⟩
     cases hv:Op.bytesLess x.fTag t with
     |false=>rfl
     |true=>
      exfalso
      simp only at hi
      rcases O2 ((a+b)/2) i with h|h
      ·exact hc (ux (hlt h he hx) hv)
      ·have:i=(a+b)/2:=by omega
       subst this
       rw[he] at hx;simp only[Oy] at hx;subst hx;exact hc hv
   ·have hab':a=b:=by omega
    subst hab'
    have hd:decide ((a:Int)<(a:Int))=false:=by simp
    refine .inr ⟨.inl ((a:Int),(a:Int)),((a:Int),bJ l t),by rw[hd];rfl, ?_,(a:Int),rfl, ?_⟩
    ·simp only[bX]
     rcases O2 a l.length with ha|ha
     ·obtain⟨e,he⟩:=jw ha
      simp only[bH ha,kn,OL,av,he,OA,hcmp]
      have:decide (Lib.compareBytes e.fTag t=0)=bJ l t:=by
       rw[O1,OC,Nv]
       unfold bJ
       rw[P9]
       constructor
       ·intro h;exact⟨e,OE he,by simpa using h⟩
       ·rintro⟨x,hx,hxt⟩
        simp only[OC] at hxt
        obtain⟨j,hj⟩:=List.getElem?_of_mem hx
        rcases Nat.lt_trichotomy j a with h|h|h
        ·have:=h3 j x h hj
         rw[hxt,mK] at this;cases this
        ·subst h;rw[he] at hj;simp only[Oy] at hj;rw[hj];exact hxt
        ·have:=hlt h he hj
         rw[hxt] at this
         have k:=h4 a e (OH _) he
         rw[k] at this;cases this
      rw[this]
     ·have hd2:decide ((a:Int)<((l.length:Nat):Int))=false:=by simp;omega
      rw[hd2]
      have:bJ l t=false:=by
       unfold bJ
       rw[List.any_eq_false]
       intro x hx hxt
       simp only[OC] at hxt
       obtain⟨j,hj⟩:=List.getElem?_of_mem hx
       have:=h3 j x (by have:=bI hj;omega) hj
       rw[hxt,mK] at this;cases this
      rw[this];rfl
    ·intro ht
     unfold bJ at ht
     rw[P9] at ht
     obtain⟨x,hx,hxt⟩:=ht
     simp only[OC] at hxt
     obtain⟨j,hj⟩:=List.getElem?_of_mem hx
     have hja:a<=j:=by
      rcases O2 j a with h|h
      ·have:=h3 j x h hj
       rw[hxt,mK] at this;cases this
      ·exact h
     obtain⟨d,hd'⟩:=jw (l:=l) (i:=a) (by have:=bI hj;omega)
     refine⟨d,by rw[av];exact hd',OE hd', ?_⟩
     rcases O2 a j with h|h
     ·have k1:=hlt h hd' hj
      rw[hxt] at k1
      have k2:=h4 a d (OH _) hd'
      rw[k1] at k2;cases k2
     ·have:j=a:=by omega
      subst this
      rw[hj] at hd';simp only[Oy] at hd';rw[<-hd'];exact hxt) (0,l.length) ⟨Pi _,OH _,fun i e hi=>by simp at hi,fun i e hi he=>by
      have:=bI he;simp only at hi;omega⟩
 obtain⟨c,hc,n,rfl,hn⟩:=key
 exact⟨n,hc,hn⟩
theorem Kz (s:br) (t:List UInt8) (hr:Dy s.fDefs) (hl:s.fDefs.length<=1000):∃ d,nI s t=some (d,bJ s.fDefs t)/\(bJ s.fDefs t=true->d∈s.fDefs/\d.fTag=t):=by
 unfold nI mU;dsimp only
 obtain⟨n,hn,hd⟩:=Ky s.fDefs t hr hl 126 [] (by first|exact(fun a0 a1 r h=>lC a0 a1 r h)|exact(fun a0 a1 r h=>by simpa using lC a0 a1 r h))
 rw[hn]
 simp only[OA]
 cases hv:bJ s.fDefs t with
 |false=>exact⟨_,rfl,fun h=>by cases h⟩
 |true=>
  obtain⟨d,hd,k1,k2⟩:=hd hv
  exact⟨d,by rw[hd];rfl,fun _=>⟨k1,k2⟩⟩
theorem LT (s:br) (t:List UInt8) (hr:Dy s.fDefs) (hl:s.fDefs.length<=1000):∃ d,nI s t=some (d,bJ s.fDefs t):=by
 obtain⟨d,h, -⟩:=Kz s t hr hl
 exact⟨d,h⟩
theorem Ng (S:br) (hr:Dy S.fDefs) (hs:S.fDefs.length<=1000) {fu:Nat} {rec:List Sl->Int->Int×Int} {deep:Nat} {m:Int} {e:Sl} (hd:deep<=7) (h0:0<=m) (h1:m<=300) (hb:Hp e)
  (hrec:e.fName≠[]->m+1<=300->deep<=6->bz fu ⟨S,m+1⟩ e.fItems ((deep:Int)+1)=some ((rec e.fItems (m+1)).1,⟨S,(rec e.fItems (m+1)).2⟩)):
  ca (fu+1) ⟨S,m⟩ e (deep:Int)=some ((xO (bJ S.fDefs) rec deep m e).1,⟨S,(xO (bJ S.fDefs) rec deep m e).2⟩):=by
 rw[kG];unfold pj;dsimp only;simp only[kD]
 obtain⟨d,hdf⟩:=LT S e.fTag hr hs
 simp only[l_,Ml e hb,NX e hb,GD _ hb.name,AY,cX,bP,OA,hdf]
 rw[bn (m+1) oM oM,bn ((deep:Int)+1) oM oM]
 rcases Kw (bJ S.fDefs) rec deep m e with⟨c1,q⟩|⟨c1,c2,q⟩|⟨c1,c2,c3,q⟩|⟨c1,c2,c3,c4,q⟩|⟨c1,c2,c3,c4,c5,q⟩|⟨c1,c2,c3,c4,c5,q⟩
 ·rw[q,show(decide (300<m+1)||decide (6<(deep:Int)))=true by simpa using c1];rfl
 ·rw[q,show(decide (300<m+1)||decide (6<(deep:Int)))=false by simpa using c1]
  have:(!tU e&& !v_ e)=true:=by simpa using c2
  rw[this];rfl
 all_goals
  have h2:(!tU e&& !v_ e)=false:=by
   cases hv:tU e with
   |true=>rfl
   |false=>rw[hv] at c2;simp only[Pj] at c2;rw[c2];rfl
  have h1':(decide (300<m+1)||decide (6<(deep:Int)))=false:=by simpa using c1
 ·rw[q,h1',h2,Ql c3.1,c3.2];rfl
 all_goals
  have h3:(!decide (e.fName=[])&& !kQ e.fName)=false:=by
   by_cases hv:e.fName=[]
   ·rw[PG hv];rfl
   ·have:kQ e.fName=true:=by
     cases hq:kQ e.fName with
     |true=>rfl
     |false=>exact absurd ⟨hv,hq⟩ c3
    rw[this];simp
 ·rw[q,h1',h2,h3,PG c4.1,c4.2];rfl
 all_goals
  have h4':(decide (e.fName=[])&& !bJ S.fDefs e.fTag)=false:=by
   by_cases hv:e.fName=[]
   ·have:bJ S.fDefs e.fTag=true:=by
     cases hq:bJ S.fDefs e.fTag with
     |true=>rfl
     |false=>exact absurd ⟨hv,hq⟩ c4
    rw[this];simp
   ·rw[Ql hv];rfl
 ·have h5':(decide (e.fMin<0)||decide (e.fMax<e.fMin)||(decide (e.fMax<1)||decide (1000<e.fMax)))=true:=by
   simp only[O3,OC];omega
  rw[q,h1',h2,h3,h4',h5'];rfl
 ·have h5':(decide (e.fMin<0)||decide (e.fMax<e.fMin)||(decide (e.fMax<1)||decide (1000<e.fMax)))=false:=by
   simp only[PQ,Pb];omega
  rw[q,h1',h2,h3,h4',h5']
  simp only[OO]
  by_cases hv:e.fName=[]
  ·rw[PG hv,Qa hv];rfl
  ·rw[Ql hv,P7 hv]
   simp only[OO]
   have:=hrec hv oM oM
   show(bz fu ⟨S,m+1⟩ e.fItems ((deep:Int)+1)).bind _=_
   rw[this];rfl
theorem KA (S:br) (hr:Dy S.fDefs) (hs:S.fDefs.length<=1000):∀ (k:Nat) (deep:Nat) (l:List Sl) (many:Int) (fu:Nat),deep<=7->8<=k+deep->2 * k+1<=fu->0<=many->many<=300->(∀ b∈l,Hp b)->
  bz fu ⟨S,many⟩ l (deep:Int)=some ((wW (bJ S.fDefs) k l deep many).1,⟨S,(wW (bJ S.fDefs) k l deep many).2⟩)
 |0,deep,_,_,_,h1,h2,_,_,_,_=>by omega
 |k+1,deep,l,many,0,_,_,h3,_,_,_=>by omega
 |k+1,deep,l,many,1,_,_,h3,_,_,_=>by omega
 |k+1,deep,l,many,fu+2,h1,h2,h3,h4,h5,hl=>by
  rw[kE];unfold pj;dsimp only;simp only[kF]
  simp only[l_,Ko]
  unfold wW Ns
  by_cases c0:l=[]
  ·rw[PG c0,Qa c0];rfl
  rw[Ql c0,P7 c0]
  simp only[OO]
  by_cases c50:50<l.length
  ·rw[Qa c50,show decide (50<((l.length:Nat):Int))=true by simp;omega];rfl
  rw[P7 c50,show decide (50<((l.length:Nat):Int))=false by simp;omega]
  simp only[OO]
  have hfb:∀ m b,0<=m->(xO (bJ S.fDefs) (fun it m=>wW (bJ S.fDefs) k it ((deep:Int)+1) m) deep m b).1=0->m<=(xO (bJ S.fDefs) (fun it m=>wW (bJ S.fDefs) k it ((deep:Int)+1) m) deep m b).2/\(xO (bJ S.fDefs) (fun it m=>wW (bJ S.fDefs) k it ((deep:Int)+1) m) deep m b).2<=300:=fun m b hm hx=>by
   obtain⟨q1, -, -,q4⟩:=Ku hx
   rcases q4 with⟨_,q⟩|⟨_,q⟩
   ·rw[q];exact⟨by simp only;omega,by simp only;omega⟩
   ·rw[q] at hx⊢
    obtain⟨k1,k2⟩:=FF _ k oM oM hx
    exact⟨by omega,k2⟩
  refine dS (Kt l (fun i (s:Int)=>(S,s,(i:Int))) (fun m e=>if(xO (bJ S.fDefs) (fun it m=>wW (bJ S.fDefs) k it ((deep:Int)+1) m) deep m e).1=0 then .inl (xO (bJ S.fDefs) (fun it m=>wW (bJ S.fDefs) k it ((deep:Int)+1) m) deep m e).2 else .inr (.inr ((xO (bJ S.fDefs) (fun it m=>wW (bJ S.fDefs) k it ((deep:Int)+1) m) deep m e).1,⟨S,(xO (bJ S.fDefs) (fun it m=>wW (bJ S.fDefs) k it ((deep:Int)+1) m) deep m e).2⟩)))
   (fun m=> .inl (S,m,(l.length:Int))) (fun m=>0<=m/\m<=300) (fun i e m he hm=> ?_) (fun e m m' he hm hg=> ?_) (fun m hm=> ?_) many ⟨h4,h5⟩) ?_
  ·have hi:=bI he
   have hmem:=OE he
   have hb:=hl e hmem
   have hit:=Ng S hr hs (fu:=fu) (rec:=fun it m=>wW (bJ S.fDefs) k it ((deep:Int)+1) m) (deep:=deep) (m:=m) h1 hm.1 hm.2 hb (fun hn hm1 hd6=>by
    have:=KA S hr hs k (deep+1) e.fItems (m+1) fu oM oM oM oM hm1 hb.items
    rw[show((deep+1:Nat):Int)=(deep:Int)+1 by omega] at this
    exact this)
   simp only[bH hi,OL,av,he,OA,cG i oM]
   show(ca (fu+1) ⟨S,m⟩ e (deep:Int)).bind _=_
   rw[hit]
   simp only[OA]
   by_cases hz:(xO (bJ S.fDefs) (fun it m=>wW (bJ S.fDefs) k it ((deep:Int)+1) m) deep m e).1=0
   ·rw[Qa hz,PG hz];rfl
   ·rw[P7 hz,Ql hz];rfl
  ·by_cases hf:(xO (bJ S.fDefs) (fun it m=>wW (bJ S.fDefs) k it ((deep:Int)+1) m) deep m e).1=0
   ·rw[Qa hf] at hg
    cases hg
    have:=hfb m e hm.1 hf
    exact⟨by omega,this.2⟩
   ·rw[P7 hf] at hg;cases hg
  ·simp only[ar,OO];rfl
  ·have run2:∀ (l:List Sl) (many:Int) (fin:Int->(br×Int×Int)⊕(Int×aC)) (g:Int->Sl->Int×Int),GJ (fun s e=>if(g s e).1=0 then(.inl (g s e).2:Int⊕((br×Int×Int)⊕(Int×aC))) else .inr (.inr ((g s e).1,⟨S,(g s e).2⟩))) fin l many=if(oj g l many).1=0 then fin (oj g l many).2 else .inr ((oj g l many).1,⟨S,(oj g l many).2⟩):=by
    intro l
    induction l with
    |nil=>intro many fin g;simp[GJ,oj]
    |cons b l ih=>
     intro many fin g
     unfold GJ oj
     by_cases hb:(g many b).1=0
     ·simp only[hb,PR];exact ih _ _ _
     ·simp only[hb,Pp]
   rw[run2]
   by_cases hf:(oj (xO (bJ S.fDefs) (fun it m=>wW (bJ S.fDefs) k it ((deep:Int)+1) m) deep) l many).1=0
   ·rw[Qa hf]
    show some (0,_)=_
    rw[hf]
   ·rw[P7 hf];rfl
def Eu (W:List (List UInt8×Bool)) (t:List UInt8):Bool:=(rA W t).getD false
theorem DB:∀ (W:List (List UInt8×Bool)) (k:List UInt8) (v:Bool) (t:List UInt8),rA (pH W k v) t=if t=k then some v else rA W t
 |[],k,v,t=>by simp[pH,rA]
 |p::W,k,v,t=>by
  unfold pH
  by_cases hk:k=p.1
  ·rw[Qa hk]
   simp only[rA]
   by_cases ht:t=k
   ·rw[Qa ht,Qa ht]
   ·rw[P7 ht,P7 ht,P7 (fun h=>ht (h.trans hk.symm))]
  ·rw[P7 hk]
   simp only[rA]
   by_cases ht:t=p.1
   ·rw[Qa ht,P7 (fun h=>hk (h.symm.trans ht)),Qa ht]
   ·rw[P7 ht,DB W k v t,P7 ht]
theorem AM (W:List (List UInt8×Bool)) (k t:List UInt8):Eu (pH W k true) t=(decide (t=k)||Eu W t):=by
 unfold Eu
 rw[DB]
 by_cases h:t=k<;>simp[h]
theorem DC {W:List (List UInt8×Bool)} (h:∀ p∈W,p.2=true) (k:List UInt8):∀ p∈pH W k true,p.2=true:=by
 induction W with
 |nil=>intro p hp;simp[pH] at hp;rw[hp]
 |cons q W ih=>
  intro p hp
  unfold pH at hp
  split at hp
  ·rcases ON.1 hp with rfl|hp
   ·rfl
   ·exact h p (Pk _ hp)
  ·rcases ON.1 hp with rfl|hp
   ·exact h _ (O9 ..)
   ·exact ih (fun p hp=>h p (Pk _ hp)) p hp
theorem LU {W:List (List UInt8×Bool)} (h:∀ p∈W,p.2=true) (t:List UInt8):Eu W t=W.any fun p=>decide (p.1=t):=by
 unfold Eu
 induction W with
 |nil=>rfl
 |cons q W ih=>
  simp only[rA,List.any_cons]
  by_cases ht:t=q.1
  ·rw[Qa ht,PG ht.symm,h q (O9 ..)];rfl
  ·rw[P7 ht,Ql (fun h=>ht h.symm),ih fun p hp=>h p (Pk _ hp)];rfl
theorem FH:∀ (a b seen:List (List UInt8)),ru seen (a++b)=(ru seen a||ru (seen++a) b)
 |[],b,seen=>by simp[ru]
 |t::a,b,seen=>by
  simp only[OM,ru,FH a b (seen++[t]),Bool.or_assoc,OK,OM,OR]
theorem Hs {D:List UInt8->Bool}:∀ (k:Nat) (l:List Sl) (fu:Nat) (W:List (List UInt8×Bool)) (T:List (List UInt8)),Kv D k l->k<=fu->(∀ t,Eu W t=T.contains t)->
  ∃ b W',kC fu l W=some (b,W')/\b=ru T (Cd k l)/\(b=false->∀ t,Eu W' t=(T++Cd k l).contains t)
 |0,_,_,_,_,h,_,_=>h.elim
 |k+1,l,0,_,_,_,h,_=>by omega
 |k+1,l,fu+1,W,T,h,hf,hW=>by
  have h50:=h.len
  have key:∃ c:Bool×List (List UInt8×Bool),kC (fu+1) l W=some c/\c.1=ru T (Cd (k+1) l)/\(c.1=false->∀ t,Eu c.2 t=(T++Cd (k+1) l).contains t):=by
   rw[wF];unfold vb;dsimp only;simp only[wE]
   refine me (X:=List (List UInt8×Bool)×Nat) (C:=fun c:Bool×List (List UInt8×Bool)=>c.1=ru T (Cd (k+1) l)/\(c.1=false->∀ t,Eu c.2 t=(T++Cd (k+1) l).contains t)) (fun s=>(s.1,(s.2:Int))) (fun s=>l.length - s.2)
    (fun s=>s.2<=l.length/\(∀ t,Eu s.1 t=(T++(l.take s.2).flatMap (Hr (Cd k))).contains t)/\ru T (Cd (k+1) l)=ru (T++(l.take s.2).flatMap (Hr (Cd k))) ((l.drop s.2).flatMap (Hr (Cd k)))) ?_ (W,0) ⟨Pi _,by simpa using hW,by simp[Cd]⟩
   rintro⟨M,i⟩ ⟨h1,h2,h3⟩
   simp only at h1 h2 h3⊢
   rcases O2 i l.length with hi|hi
   ·obtain⟨e,he⟩:=jw hi
    have hm:=OE he
    have hsn:(l.take (i+1)).flatMap (Hr (Cd k))=(l.take i).flatMap (Hr (Cd k))++Hr (Cd k) e:=by rw[ng he,List.flatMap_append];simp
    rw[zI he,List.flatMap_cons,FH] at h3
    simp only[bH hi,OL,av,he,OA,cG i oM]
    by_cases hn:e.fName=[]
    ·rw[PG hn]
     have hz:Hr (Cd k) e=[]:=by unfold Hr;rw[Qa hn]
     rw[hz] at h3
     refine .inl ⟨(M,i+1),⟨hi, ?_, ?_⟩,by simp only;omega,rfl⟩
     ·intro t;rw[hsn,hz];simpa using h2 t
     ·rw[hsn,hz,h3];simp[ru]
    ·rw[Ql hn]
     have hz:Hr (Cd k) e=e.fName::Cd k e.fItems:=by unfold Hr;rw[P7 hn]
     rw[hz] at h3
     simp only[ru] at h3
     have hg:(rA M e.fName).getD false=(T++(l.take i).flatMap (Hr (Cd k))).contains e.fName:=h2 e.fName
     simp only[OO]
     rw[hg]
     cases hc:(T++(l.take i).flatMap (Hr (Cd k))).contains e.fName with
     |true=>
      rw[hc] at h3
      exact .inr ⟨_,(true,M),rfl,rfl,by rw[h3];rfl,fun h=>by cases h⟩
     |false=>
      rw[hc,Pj] at h3
      simp only[OO]
      obtain⟨b,W',q1,q2,q3⟩:=Hs k e.fItems fu (pH M e.fName true) (T++(l.take i).flatMap (Hr (Cd k))++[e.fName]) ((h.it hm).2 hn) oM (fun t=>by
       rw[AM,h2 t,O1]
       simp only[List.contains_eq_mem,OV,OP,O3,OC]
       constructor
       ·rintro(h|h)
        ·exact .inr h
        ·exact .inl h
       ·rintro(h|h)
        ·exact .inr h
        ·exact .inl h)
      rw[q1]
      simp only[OA]
      rw[<-q2] at h3
      cases b with
      |true=>exact .inr ⟨_,(true,W'),rfl,rfl,by rw[h3];rfl,fun h=>by cases h⟩
      |false=>
       rw[Pj] at h3
       refine .inl ⟨(W',i+1),⟨hi, ?_, ?_⟩,by simp only;omega,rfl⟩
       ·intro t
        rw[q3 rfl t,hsn,hz]
        simp
       ·rw[hsn,hz,h3];simp
   ·have hl':i=l.length:=by omega
    subst hl'
    rw[PH] at h2 h3
    rw[List.drop_length] at h3
    refine .inr ⟨.inl (M,(l.length:Int)),(false,M),by simp only[ar,OO];rfl,rfl, ?_,fun _=>h2⟩
    rw[h3];rfl
  obtain⟨⟨b,W'⟩,k1,k2,k3⟩:=key
  exact⟨b,W',k1,k2,k3⟩
theorem Cf (R:Type) (K:List (List UInt8×Bool)->Option R):∀ (es:List (List UInt8×Bool)) (M:List (List UInt8×Bool)),rN (fun(e:List UInt8×Bool) (s:List (List UInt8×Bool))=>(some (Sum.inl (pH s e.1 true)):Option (List (List UInt8×Bool)⊕(List (List UInt8×Bool)⊕R)))) K es M=K (es.foldl (fun M e=>pH M e.1 true) M)
 |[],M=>rfl
 |e::es,M=>by
  simp only[rN,List.foldl_cons]
  exact Cf R K es _
theorem FI:∀ (es:List (List UInt8×Bool)) (M:List (List UInt8×Bool)) (t:List UInt8),Eu (es.foldl (fun M e=>pH M e.1 true) M) t=(Eu M t||es.any fun p=>decide (p.1=t))
 |[],M,t=>by simp
 |e::es,M,t=>by
  simp only[List.foldl_cons,List.any_cons]
  rw[FI es _ t,AM]
  have:decide (t=e.1)=decide (e.1=t):=by congr 1;apply propext;exact eq_comm
  rw[this]
  cases decide (e.1=t)<;>cases Eu M t<;>simp
theorem DD:∀ (es:List (List UInt8×Bool)) (M:List (List UInt8×Bool)),(∀ p∈M,p.2=true)->∀ p∈es.foldl (fun M e=>pH M e.1 true) M,p.2=true
 |[],M,h=>h
 |e::es,M,h=>DD es _ (DC h e.1)
theorem KB {α:Type} {p:α->Bool} {a b:List α} (h:a.Perm b):a.any p=b.any p:=by
 rw[O1,P9,P9]
 constructor
 ·rintro⟨x,hx,h1⟩;exact⟨x,h.mem_iff.1 hx,h1⟩
 ·rintro⟨x,hx,h1⟩;exact⟨x,h.mem_iff.2 hx,h1⟩
theorem Ht {D:List UInt8->Bool}:∀ (k:Nat) (l:List Sl) (fu:Nat) (W:List (List UInt8×Bool)) (S:List UInt8->Bool) (g:Bool),Kv D k l->k<=fu->(∀ t,Eu W t=S t)->(∀ p∈W,p.2=true)->gv fu l W g=some (Iy k l S g)
 |0,_,_,_,_,_,h,_,_,_=>h.elim
 |k+1,l,0,_,_,_,_,h,_,_=>by omega
 |k+1,l,fu+1,W,S,g,h,hf,hW,hT=>by
  have h50:=h.len
  rw[wH];unfold vc;dsimp only;simp only[wG]
  have hlast:(bx (fun s:Int=>bif decide (s<(l.length:Int)) then(dg l s).bind fun e=>bif decide (e.fName=[]) then some (Sum.inl (IntKind.i64.wrap (s+1))) else uI W (fun e s=>some (Sum.inl (pH s e.fst true))) [] fun s_1=>(fh l ((some s).getD 0) ((none:Option Int).getD ((l.length:Nat):Int))).bind fun e_1=>(bx (fun s:List (List UInt8×Bool)×Int=>bif decide (s.snd<((e_1.length:Nat):Int)) then(dg e_1 s.snd).bind fun e=>(ii {fTag:=e.fTag,fName:=e.fName,fMin:=e.fMin,fMax:=e.fMax,fItems:=e.fItems}).bind fun x=>some (Sum.inl (pH s.fst x true,IntKind.i64.wrap (s.snd+1))) else cS (some (Sum.inl (s.fst,s.snd)))) (s_1,0)).bind (bX fun s_2=>(gv fu e.fItems s_2.fst true).bind fun x=>bif x then cS (cS (some true)) else some (Sum.inl (IntKind.i64.wrap (s+1)))) else cS (some (Sum.inl s))) 0).bind (bX fun _=>some false)=some (Mm (fun it S'=>Iy k it S' true) S l):=by
   refine yS (X:=Nat) (fun i=>(i:Int)) (fun i=>l.length - i) (fun i=>i<=l.length/\Mm (fun it S'=>Iy k it S' true) S l=Mm (fun it S'=>Iy k it S' true) S (l.drop i)) ?_ 0 ⟨Pi _,rfl⟩
   rintro i ⟨k1,k2⟩
   rcases O2 i l.length with hi|hi
   ·obtain⟨e,he⟩:=jw hi
    have hm:=OE he
    have hdr:=zI he
    rw[hdr] at k2
    simp only[Mm] at k2
    simp only[bH hi,OL,av,he,OA,cG i oM]
    by_cases hn:e.fName=[]
    ·rw[PG hn] at k2⊢
     exact .inl ⟨i+1,⟨hi,by simpa using k2⟩,by omega,rfl⟩
    ·rw[Ql hn] at k2⊢
     simp only[Po,OZ] at k2
     have hsl:fh l ((some (i:Int)).getD 0) ((none:Option Int).getD ((l.length:Nat):Int))=some (l.drop i):=by
      simp only[PP,Pl,fh]
      rw[Qa ⟨by omega,by omega,PK _⟩,PO l.length,O8 (OH _)]
      simp
     have hrange:uI W (fun(e:List UInt8×Bool) (s:List (List UInt8×Bool))=>some (Sum.inl (pH s e.fst true))) [] (fun s_1=>(fh l ((some (i:Int)).getD 0) ((none:Option Int).getD ((l.length:Nat):Int))).bind fun e_1=>(bx (fun s:List (List UInt8×Bool)×Int=>bif decide (s.snd<((e_1.length:Nat):Int)) then(dg e_1 s.snd).bind fun e=>(ii {fTag:=e.fTag,fName:=e.fName,fMin:=e.fMin,fMax:=e.fMax,fItems:=e.fItems}).bind fun x=>some (Sum.inl (pH s.fst x true,IntKind.i64.wrap (s.snd+1))) else cS (some (Sum.inl (s.fst,s.snd)))) (s_1,0)).bind (bX fun s_2=>(gv fu e.fItems s_2.fst true).bind fun x=>bif x then(cS (cS (some true)):Option (Int⊕(Int⊕Bool))) else some (Sum.inl ((i+1:Nat):Int))))=
       some (if Iy k e.fItems (fun t=>S t||((e::l.drop (i+1)).map lK).contains t) true=true then .inr (.inr true) else .inl ((i+1:Nat):Int)):=by
      refine HY fun W' hp=> ?_
      rw[Cf,hsl]
      simp only[OA]
      have hM0:∀ t,Eu (W'.foldl (fun M e=>pH M e.1 true) []) t=S t:=fun t=>by
       rw[FI,KB hp,<-LU hT,hW];rfl
      have hT0:=DD W' [] (fun p hp=>by cases hp)
      generalize W'.foldl (fun M e=>pH M e.1 true) []=M0 at hM0 hT0
      refine yS (X:=List (List UInt8×Bool)×Nat) (fun s=>(s.1,(s.2:Int))) (fun s=>(l.drop i).length - s.2) (fun s=>s.2<=(l.drop i).length/\(∀ t,Eu s.1 t=(S t||(((l.drop i).take s.2).map lK).contains t))/\∀ p∈s.1,p.2=true) ?_ (M0,0) ⟨Pi _,by simpa using hM0,hT0⟩
      rintro⟨M,j⟩ ⟨p1,p2,p3⟩
      simp only at p1 p2 p3⊢
      rcases O2 j (l.drop i).length with hj|hj
      ·obtain⟨x,hx⟩:=jw hj
       have hxm:x∈l:=Pg (OE hx)
       have hlj:(l.drop i).length<=50:=by rw[Pq];omega
       simp only[bH hj,OL,av,hx,OA,l_,Kp (h.it hxm).1.ok,cG j oM]
       refine .inl ⟨(pH M (lK x) true,j+1),⟨hj,fun t=> ?_,DC p3 _⟩,by simp only;omega,rfl⟩
       simp only
       rw[AM,p2 t,ng hx,O1]
       simp only[List.contains_eq_mem,QC,OQ,PU,OV,OP,O3,OC]
       constructor
       ·rintro(h|h|h)
        ·exact .inr (.inr h)
        ·exact .inl h
        ·exact .inr (.inl h)
       ·rintro(h|h|h)
        ·exact .inr (.inl h)
        ·exact .inr (.inr h)
        ·exact .inl h
      ·have hl':j=(l.drop i).length:=by omega
       subst hl'
       rw[PH,hdr] at p2
       refine .inr ⟨_,by simp only[ar,OO];rfl, ?_⟩
       simp only[bX]
       rw[Ht k e.fItems fu M _ true ((h.it hm).2 hn) oM p2 p3]
       simp only[OA]
       cases Iy k e.fItems (fun t=>S t||((e::l.drop (i+1)).map lK).contains t) true<;>rfl
     simp only[OO]
     rw[hrange]
     cases hc:Iy k e.fItems (fun t=>S t||((e::l.drop (i+1)).map lK).contains t) true with
     |true=>rw[hc] at k2;exact .inr ⟨_,by rw[Qa rfl],by rw[k2];rfl⟩
     |false=>rw[hc] at k2;exact .inl ⟨i+1,⟨hi,by simpa using k2⟩,by omega,by rw[P7 oS]⟩
   ·have hl':i=l.length:=by omega
    subst hl'
    rw[List.drop_length] at k2
    exact .inr ⟨_,by simp only[ar,OO];rfl,by rw[k2];rfl⟩
  refine yS (X:=List (List UInt8×Bool)×Nat) (fun s=>(s.1,(s.2:Int))) (fun s=>l.length - s.2) (fun s=>s.2<=l.length/\(∀ t,Eu s.1 t=((l.take s.2).map lK).contains t)/\(Et S g 0 (l.map lK)||ru [] (l.map lK))=(Et S g s.2 ((l.drop s.2).map lK)||ru ((l.take s.2).map lK) ((l.drop s.2).map lK))) ?_ ([],0) ⟨Pi _,fun t=>by simp[Eu,rA],by simp⟩
  rintro⟨M,i⟩ ⟨k1,k2,k3⟩
  simp only at k1 k2 k3⊢
  rcases O2 i l.length with hi|hi
  ·obtain⟨e,he⟩:=jw hi
   have hm:=OE he
   rw[zI he] at k3
   simp only[OQ,Et,ru] at k3
   simp only[bH hi,OL,av,he,OA,cG i oM,l_,Kp (h.it hm).1.ok,bP,cX]
   have hd0:decide ((i:Int)=0)=decide (i=0):=by congr 1;apply propext;omega
   have e1:(rA M (lK e)).getD false=((l.take i).map lK).contains (lK e):=k2 _
   have e2:(rA W (lK e)).getD false=S (lK e):=hW _
   rw[hd0,e1,e2]
   have hsn:(l.take (i+1)).map lK=(l.take i).map lK++[lK e]:=by rw[ng he];simp
   cases hc:(((l.take i).map lK).contains (lK e)||S (lK e)&& !(g&&decide (i=0))) with
   |true=>
    refine .inr ⟨_,rfl, ?_⟩
    unfold Iy
    have:(Et S g 0 (l.map lK)||ru [] (l.map lK))=true:=by
     rw[k3]
     simp only[O3,Oz] at hc⊢
     rcases hc with hc|hc
     ·exact .inr (.inl hc)
     ·exact .inl (.inl ⟨hc.2,hc.1⟩)
    rw[this];rfl
   |false=>
    simp only[PQ,PC] at hc
    refine .inl ⟨(pH M (lK e) true,i+1),⟨hi,fun t=> ?_, ?_⟩,by simp only;omega,rfl⟩
    ·simp only
     rw[AM,k2 t,hsn,O1]
     simp only[List.contains_eq_mem,OV,OP,O3,OC]
     constructor
     ·rintro(h|h)
      ·exact .inr h
      ·exact .inl h
     ·rintro(h|h)
      ·exact .inr h
      ·exact .inl h
    ·rw[k3,hsn,hc.1]
     have:(!(g&&decide (i=0))&&S (lK e))=false:=by
      rcases hc.2 with hc|hc
      ·rw[hc];simp
      ·rw[hc];rfl
     rw[this]
     simp
  ·have hl':i=l.length:=by omega
   subst hl'
   rw[List.drop_length,PH] at k3
   refine .inr ⟨_,by simp only[ar,OO];rfl, ?_⟩
   simp only[bX]
   unfold Iy
   rw[k3]
   simp only[PU,Et,ru,Pj]
   exact hlast
theorem CG (s:br) (h:Ou s):kH s=some (Oa s):=by
 have hFU:=J4
 unfold kH vj;dsimp only
 rw[GD _ h.kind,GD _ h.version,Nf _ h.tags]
 simp only[OA,cX]
 unfold Oa
 by_cases c1:kQ s.fKind=false\/kQ s.fVersion=false
 ·rw[Qa c1,show(!kQ s.fKind|| !kQ s.fVersion)=true by simpa using c1];rfl
 rw[P7 c1,show(!kQ s.fKind|| !kQ s.fVersion)=false by simpa using c1]
 simp only[OO]
 by_cases c2:nW s.fDefs=0
 ·rw[P7 (not_not_intro c2),PG c2]
  have hdl:=Kx c2
  have hit:=KA s (IA c2) oM 8 0 s.fItems 0 FU oM oM oM oM oM h.items
  rw[show((0:Nat):Int)=0 from rfl] at hit
  rw[hit]
  simp only[OS,OO,OA]
  by_cases c3:(wW (bJ s.fDefs) 8 s.fItems 0 0).1=0
  ·rw[P7 (not_not_intro c3),PG c3]
   obtain⟨k1,k2⟩:=FG _ 8 s.fItems 0 0 c3
   obtain⟨b,W',q1,q2, -⟩:=Hs 8 s.fItems FU [] [] k1 oM (fun t=>by simp[Eu,rA])
   rw[q1]
   simp only[OS,OO,OA]
   rw[<-q2]
   cases b with
   |true=>rfl
   |false=>
    simp only[OO,O5,Pp]
    rw[Ht 8 s.fItems FU [] (fun _=>false) false k1 oM (fun t=>rfl) (fun p hp=>by cases hp)]
    simp only[OA]
    cases Iy 8 s.fItems (fun _=>false) false<;>rfl
  ·rw[Qa c3,Ql c3];rfl
 ·rw[Qa c2,Ql c2];rfl
def KR (t:List UInt8):Int:=if 1000<t.length then 2 else if t.all (pD 32 126)=true then 0 else 3
theorem M8 (t:List UInt8):oU t=some (KR t):=by
 unfold oU m_;dsimp only
 unfold KR
 by_cases h:1000<t.length
 ·rw[Qa h,PG oM];rfl
 ·rw[P7 h,Ql oM,OO]
  unfold yM m9;dsimp only
  rw[DE t _ _ oM,PG (show(t.length:Int)<=1000 by omega)]
  have e:(UInt8.ofNat (Int.toNat 32),UInt8.ofNat (Int.toNat 126))=((32:UInt8),(126:UInt8)):=rfl
  simp only[OB] at e
  rw[e.1,e.2]
  simp only[OA,bP,OZ]
  by_cases hq:t.all (pD 32 126)=true
  ·rw[hq];rfl
  ·rw[P7 hq,PN.2 hq];rfl
theorem M9 (t:List UInt8):gh t=some (KR t):=by
 unfold gh m9;dsimp only
 unfold KR
 by_cases h:1000<t.length
 ·rw[Qa h,PG oM];rfl
 ·rw[P7 h,Ql oM,OO]
  refine Eq.trans (nh t (pD 32 126) 3 (fun i e he=> ?_) ?_) ?_
  ·have hi:=bI he
   simp only[bH hi,OL,av,he,OA,cX,cG i oM]
   have hb:(decide ((e.toNat:Int)<32)||decide (126<(e.toNat:Int)))= !pD 32 126 e:=by
    unfold pD
    have h1:((32:UInt8)).toNat=32:=rfl
    have h2:((126:UInt8)).toNat=126:=rfl
    rw[h1,h2,O1];simp;omega
   rw[hb]
   by_cases hr:pD 32 126 e=true
   ·rw[hr];rfl
   ·rw[P7 hr,PN.2 hr];rfl
  ·simp only[ar,OO];rfl
  ·split<;>rfl
def pA {α:Type} (h:α->Int):List α->Int
 |[]=>0
 |e::l=>if h e=0 then pA h l else h e
theorem mI {α R:Type} (l:List α) (h:α->Int) (ret:Int->R) (k:Int->Option R) {f:Int->Option (Int⊕(Int⊕R))}
  (hb:∀ (i:Nat) (e:α),l[i]?=some e->f (i:Int)=if h e=0 then some (.inl ((i+1:Nat):Int)) else some (.inr (.inr (ret (h e)))))
  (he:f (l.length:Int)=some (.inr (.inl (l.length:Int)))):(bx f 0).bind (bX k)=if pA h l=0 then k (l.length:Int) else some (ret (pA h l)):=by
 have:∀ (t:List α) (i:Nat),l.drop i=t->i<=l.length->bx f (i:Int)=if pA h t=0 then some (.inl (l.length:Int)) else some (.inr (ret (pA h t))):=by
  intro t
  induction t with
  |nil=>
   intro i hd hi
   have:=tS hd hi
   subst this
   rw[ct,he]
   rfl
  |cons e t ih=>
   intro i hd hi
   obtain⟨h1,h2,h3⟩:=zF hd
   rw[ct,hb i e h1]
   by_cases h0:h e=0
   ·simp only[pA,h0,PR];exact ih (i+1) h3 h2
   ·simp only[pA,h0,Pp]
 have e0:bx f 0=if pA h l=0 then some (.inl (l.length:Int)) else some (.inr (ret (pA h l))):=this l 0 rfl (Pi _)
 rw[e0]
 by_cases h0:pA h l=0
 ·rw[Qa h0,Qa h0];rfl
 ·rw[P7 h0,P7 h0];rfl
theorem tT {α:Type} {h:α->Int}:∀ {l:List α},pA h l=0->∀ e∈l,h e=0
 |[],_,e,he=>by cases he
 |x::l,hl,e,he=>by
  simp only[pA] at hl
  split at hl
  ·rename_i h0
   rcases ON.1 he with rfl|he
   ·exact h0
   ·exact tT hl e he
  ·rename_i h0;exact absurd hl h0
def Nr (l:List (List UInt8)):Int:=if l.length=0 then 9 else if 20<l.length then 2 else pA KR l
def KS (e:bV):Int:=if e.fRepeats.length=0 then 9 else if 20<e.fRepeats.length then 2 else pA Nr e.fRepeats
theorem NS (e:bV):lJ e=some (KS e):=by
 unfold lJ ne;dsimp only
 unfold KS
 by_cases h0:e.fRepeats.length=0
 ·have c:decide ((e.fRepeats.length:Int)=0)=true:=PG oM
  simp only[c,OL,Qa h0]
 ·have d0:decide ((e.fRepeats.length:Int)=0)=false:=Ql oM
  by_cases h1:20<e.fRepeats.length
  ·have d1:decide ((20:Int)<(e.fRepeats.length:Int))=true:=PG oM
   simp only[d0,d1,OL,OO,h0,h1,PR,Pp]
  ·have d1:decide ((20:Int)<(e.fRepeats.length:Int))=false:=Ql oM
   simp only[d0,d1,OO,h0,h1,Pp]
   refine(mI e.fRepeats Nr (fun a=>a) _ (fun i l he=> ?_) ?_).trans ?_
   ·have hi:=bI he
    simp only[bH hi,OL,av,he,OA,cG i oM,Nr]
    by_cases g0:l.length=0
    ·have c0:decide ((l.length:Int)=0)=true:=PG oM
     simp only[c0,OL,Qa g0];rfl
    ·have c0:decide ((l.length:Int)=0)=false:=Ql oM
     by_cases g1:20<l.length
     ·have c1:decide ((20:Int)<(l.length:Int))=true:=PG oM
      simp only[c0,c1,OL,OO,g0,g1,PR,Pp];rfl
     ·have c1:decide ((20:Int)<(l.length:Int))=false:=Ql oM
      simp only[c0,c1,OO,g0,g1,Pp]
      refine(mI l KR (fun a=> .inr (.inr a)) _ (fun j t ht=> ?_) ?_).trans ?_
      ·have hj:=bI ht
       simp only[bH hj,OL,av,he,ht,OA,cG j oM,M8]
       by_cases hz:KR t=0<;>simp[hz,cS]
      ·simp only[av,he,OA,ar,OO];rfl
      ·split<;>rfl
   ·simp only[ar,OO];rfl
   ·split<;>simp_all
theorem NT (e:bV):eY e=some (KS e):=by
 unfold eY m_;dsimp only
 unfold KS
 by_cases h0:e.fRepeats.length=0
 ·have c:decide ((e.fRepeats.length:Int)=0)=true:=PG oM
  simp only[c,OL,Qa h0]
 ·have d0:decide ((e.fRepeats.length:Int)=0)=false:=Ql oM
  by_cases h1:20<e.fRepeats.length
  ·have d1:decide ((20:Int)<(e.fRepeats.length:Int))=true:=PG oM
   simp only[d0,d1,OL,OO,h0,h1,PR,Pp]
  ·have d1:decide ((20:Int)<(e.fRepeats.length:Int))=false:=Ql oM
   simp only[d0,d1,OO,h0,h1,Pp]
   refine(mI e.fRepeats Nr (fun a=>a) _ (fun i l he=> ?_) ?_).trans ?_
   ·have hi:=bI he
    simp only[bH hi,OL,av,he,OA,cG i oM,Nr]
    by_cases g0:l.length=0
    ·have c0:decide ((l.length:Int)=0)=true:=PG oM
     simp only[c0,OL,Qa g0];rfl
    ·have c0:decide ((l.length:Int)=0)=false:=Ql oM
     by_cases g1:20<l.length
     ·have c1:decide ((20:Int)<(l.length:Int))=true:=PG oM
      simp only[c0,c1,OL,OO,g0,g1,PR,Pp];rfl
     ·have c1:decide ((20:Int)<(l.length:Int))=false:=Ql oM
      simp only[c0,c1,OO,g0,g1,Pp]
      refine(mI l KR (fun a=> .inr (.inr a)) _ (fun j t ht=> ?_) ?_).trans ?_
      ·have hj:=bI ht
       simp only[bH hj,OL,av,he,ht,OA,cG j oM,M9]
       by_cases hz:KR t=0<;>simp[hz,cS]
      ·simp only[av,he,OA,ar,OO];rfl
      ·split<;>rfl
   ·simp only[ar,OO];rfl
   ·split<;>simp_all
def Iv (s:aj):Int:=if yQ s.fTag=false then 5 else if 50<s.fElements.length then 2 else pA KS s.fElements
def LQ (l:List aj):Int:=if 2000<l.length then 2 else pA Iv l
def Iw (l:List aj):Prop:=∀ s∈l,s.fTag.length<=9223372036854775807
theorem NU (s:aj) (hs:s.fTag.length<=9223372036854775807):gK s=some (Iv s):=by
 unfold gK ne;dsimp only
 unfold Iv
 rw[Mk s.fTag hs]
 simp only[OA]
 cases ht:yQ s.fTag with
 |false=>simp
 |true=>
  simp only[OS,OO,PV,Pp]
  by_cases h1:50<s.fElements.length
  ·have d1:decide ((50:Int)<(s.fElements.length:Int))=true:=PG oM
   simp only[d1,OL,h1,PR]
  ·have d1:decide ((50:Int)<(s.fElements.length:Int))=false:=Ql oM
   simp only[d1,OO,h1,Pp]
   refine(mI s.fElements KS (fun a=>a) _ (fun i e he=> ?_) ?_).trans ?_
   ·have hi:=bI he
    simp only[bH hi,OL,av,he,OA,cG i oM,NT]
    by_cases hz:KS e=0<;>simp[hz,cS]
   ·simp only[ar,OO];rfl
   ·split<;>simp_all
theorem Km (l:List aj) (hs:Iw l):ij l=some (LQ l):=by
 unfold ij vW;dsimp only
 unfold LQ
 by_cases h1:2000<l.length
 ·have d1:decide ((2000:Int)<(l.length:Int))=true:=PG oM
  simp only[d1,OL,h1,PR]
 ·have d1:decide ((2000:Int)<(l.length:Int))=false:=Ql oM
  simp only[d1,OO,h1,Pp]
  refine(mI l Iv (fun a=>a) _ (fun i s hes=> ?_) ?_).trans ?_
  ·have hi:=bI hes
   have hst:=hs s (OE hes)
   simp only[bH hi,OL,av,hes,OA,cG i oM,Hi s.fTag oM,Iv]
   by_cases ht:yQ s.fTag=false
   ·simp[ht,cS]
   ·replace ht:yQ s.fTag=true:=by simpa using ht
    simp only[ht,OS,OO,PV,Pp]
    by_cases h1:50<s.fElements.length
    ·have d1:decide ((50:Int)<(s.fElements.length:Int))=true:=PG oM
     simp only[d1,OL,h1,PR];rfl
    ·have d1:decide ((50:Int)<(s.fElements.length:Int))=false:=Ql oM
     simp only[d1,OO,h1,Pp]
     refine(mI s.fElements KS (fun a=> .inr (.inr a)) _ (fun i e he=> ?_) ?_).trans ?_
     ·have hi:=bI he
      simp only[bH hi,OL,av,he,OA,cG i oM,NS]
      by_cases hz:KS e=0<;>simp[hz,cS]
     ·simp only[ar,OO];rfl
     ·split<;>rfl
  ·simp only[ar,OO];rfl
  ·split<;>simp_all
theorem Kn (s:aj):LQ [s]=Iv s:=by
 unfold LQ
 simp only[Ph,pA]
 split
 ·omega
 ·split
  ·rename_i h;exact h.symm
  ·rfl
theorem NV {s:aj} (h:Iv s=0):s.fElements.length<=50/\∀ e∈s.fElements,e.fRepeats.length<=20/\∀ l∈e.fRepeats,l.length<=20/\∀ t∈l,t.length<=1000/\t.all (pD 32 126)=true:=by
 unfold Iv at h
 split at h
 ·cases h
 split at h
 ·cases h
 refine⟨by omega,fun e he=> ?_⟩
 have he0:=tT h e he
 unfold KS at he0
 split at he0
 ·cases he0
 split at he0
 ·cases he0
 refine⟨by omega,fun l hl=> ?_⟩
 have hl0:=tT he0 l hl
 unfold Nr at hl0
 split at hl0
 ·cases hl0
 split at hl0
 ·cases hl0
 refine⟨by omega,fun t ht=> ?_⟩
 have ht0:=tT hl0 t ht
 unfold KR at ht0
 split at ht0
 ·cases ht0
 split at ht0
 ·rename_i q;exact⟨by omega,q⟩
 ·cases ht0
section
variable {α R:Type}
theorem jN {S A:Type} {f:S->Option (S⊕A)} {s s':S} (h:f s=some (.inl s')):bx f s=bx f s':=by rw[ct,h]
theorem e_ {S A:Type} {f:S->Option (S⊕A)} {s:S} {a:A} (h:f s=some (.inr a)):bx f s=some a:=by rw[ct,h]
def FJ (L:List α) (i j:Int) (k:List α->Option R):Option R:=
 (dg L j).bind fun _=>L[j.toNat]?.bind fun e=>(dg L i).bind fun _=>L[i.toNat]?.bind fun e2=>(dg L i).bind fun _=>L[i.toNat]?.bind fun _=>
  (dg (L.set i.toNat e) j).bind fun _=>(L.set i.toNat e)[j.toNat]?.bind fun _=>k ((L.set i.toNat e).set j.toNat e2)
theorem KC {L:List α} {i j:Nat} {u v w:α} {k:List α->Option R} (hi:L[i]?=some u) (hj:L[j]?=some v) (hw:(L.set i v)[j]?=some w):FJ L (i:Int) (j:Int) k=k ((L.set i v).set j u):=by
 unfold FJ
 simp only[av,PO,hi,hj,hw,OA]
theorem tV (X Y:List α) (u:α):(X++u::Y)[X.length]?=some u:=by simp
theorem yW (X Y:List α) (u v:α):(X++u::Y).set X.length v=X++v::Y:=by simp
theorem KD (X Y Z:List α) (u v:α) (k:List α->Option R):FJ (X++u::(Y++v::Z)) (X.length:Int) ((X.length+1+Y.length:Nat):Int) k=k (X++v::(Y++u::Z)):=by
 have e1:∀ w z:α,X++w::(Y++z::Z)=(X++w::Y)++z::Z:=fun w z=>by simp
 have e2:∀ w:α,X.length+1+Y.length=(X++w::Y).length:=fun w=>by simp;omega
 have hj:∀ w z:α,(X++w::(Y++z::Z))[X.length+1+Y.length]?=some z:=fun w z=>by rw[e1,e2 w];exact tV _ _ _
 rw[KC (tV X _ u) (hj u v) (by rw[yW];exact hj v v),yW,e1 v v,e2 v,yW,<-e1]
theorem KE (X Y Z:List α) (u v:α) (k:List α->Option R):FJ (X++u::(Y++v::Z)) ((X.length+1+Y.length:Nat):Int) (X.length:Int) k=k (X++v::(Y++u::Z)):=by
 have e1:∀ w z:α,X++w::(Y++z::Z)=(X++w::Y)++z::Z:=fun w z=>by simp
 have e2:∀ w:α,X.length+1+Y.length=(X++w::Y).length:=fun w=>by simp;omega
 have hj:∀ w z:α,(X++w::(Y++z::Z))[X.length+1+Y.length]?=some z:=fun w z=>by rw[e1,e2 w];exact tV _ _ _
 have hs:∀ w z y:α,(X++w::(Y++z::Z)).set (X.length+1+Y.length) y=X++w::(Y++y::Z):=fun w z y=>by rw[e1,e2 w,yW,<-e1]
 rw[KC (hj u v) (tV X _ u) (by rw[hs];exact tV X _ u),hs,yW]
structure rv (lt:α->α->Bool):Prop where
 asym:∀ a b,lt a b=true->lt b a=false
 tr:∀ a b c,lt b a=false->lt c b=false->lt c a=false
def pC (lt:α->α->Bool) (L:List α):Prop:=L.Pairwise (fun a b=>lt b a=false)
def CH (lt:α->α->Bool) (x y:α):Bool:= !lt x y&& !lt y x
def SP (lt:α->α->Bool) (X Y:List α):Prop:=X.Perm Y/\∀ x,X.filter (CH lt x)=Y.filter (CH lt x)
theorem SP.refl (lt:α->α->Bool) (X:List α):SP lt X X:=⟨.refl _,fun _=>rfl⟩
theorem SP.trans {lt:α->α->Bool} {X Y Z:List α} (h:SP lt X Y) (g:SP lt Y Z):SP lt X Z:=⟨h.1.trans g.1,fun x=>(h.2 x).trans (g.2 x)⟩
theorem SP.app {lt:α->α->Bool} {X Y X' Y':List α} (h:SP lt X X') (g:SP lt Y Y'):SP lt (X++Y) (X'++Y'):=⟨h.1.append g.1,fun x=>by rw[List.filter_append,List.filter_append,h.2,g.2]⟩
theorem rv.lt_left {lt:α->α->Bool} (O:rv lt) {v v' x:α} (h:lt v v'=false) (g:lt v x=true):lt v' x=true:=by
 cases e:lt v' x with
 |true=>rfl
 |false=>rw[O.tr x v' v e h] at g;cases g
theorem rv.lt_right {lt:α->α->Bool} (O:rv lt) {v v' x:α} (h:lt v' v=false) (g:lt x v=true):lt x v'=true:=by
 cases e:lt x v' with
 |true=>rfl
 |false=>rw[O.tr v v' x h e] at g;cases g
theorem rv.irr {lt:α->α->Bool} (O:rv lt) (v:α):lt v v=false:=by
 cases e:lt v v with
 |false=>rfl
 |true=>rw[<-e];exact O.asym v v e
theorem SP.swap {lt:α->α->Bool} (O:rv lt) {U V:List α} (h:∀ u∈U,∀ v∈V,lt v u=true):SP lt (U++V) (V++U):=by
 refine⟨List.perm_append_comm,fun x=> ?_⟩
 rw[List.filter_append,List.filter_append]
 cases hu:U.filter (CH lt x) with
 |nil=>simp
 |cons u U'=>
  have hV:V.filter (CH lt x)=[]:=by
   rw[List.filter_eq_nil_iff]
   intro v hv hx
   have hu':=Qf.1 (hu▸O9:u∈U.filter (CH lt x))
   have:=h u hu'.1 v hv
   have a:=hu'.2
   simp only[CH,Oz,Pz] at a hx
   rw[O.tr u x v a.1 hx.2] at this
   cases this
  rw[hV];simp
theorem lf {lt:α->α->Bool} {X Y:List α}:pC lt (X++Y)↔pC lt X/\pC lt Y/\∀ a∈X,∀ b∈Y,lt b a=false:=Qg
theorem LV (lt:α->α->Bool) (x:α):pC lt [x]:=PZ _ _
theorem wb {lt:α->α->Bool} {V:List α} (h:pC lt V) {P:α->Prop} (O:rv lt) (hP:∀ v v',lt v v'=false->P v->P v') {k:Nat} (hk:k=0\/∃ v,V[k - 1]?=some v/\P v):∀ w∈V.take k,P w:=by
 rcases hk with rfl|⟨v,hv,hp⟩
 ·simp
 ·intro w hw
  obtain⟨i,hi,rfl⟩:=List.mem_iff_getElem.1 hw
  rw[List.getElem_take]
  obtain⟨hv1,hv2⟩:=OG.1 hv
  have hi':i<k:=by have:=List.length_take_le k V;rw[OT] at hi;omega
  rcases PW (show i<=k - 1 by omega) with hlt|heq
  ·exact hP v _ (by rw[<-hv2];exact List.pairwise_iff_getElem.1 h i (k - 1) oM hv1 hlt) hp
  ·subst heq;rw[hv2];exact hp
theorem yX {lt:α->α->Bool} {V:List α} (h:pC lt V) {P:α->Prop} (hP:∀ v v',lt v' v=false->P v->P v') {k:Nat} (hk:V.length<=k\/∃ v,V[k]?=some v/\P v):∀ w∈V.drop k,P w:=by
 rcases hk with hk|⟨v,hv,hp⟩
 ·rw[P_ hk];simp
 ·intro w hw
  obtain⟨i,hi,rfl⟩:=List.mem_iff_getElem.1 hw
  rw[List.getElem_drop]
  obtain⟨hv1,hv2⟩:=OG.1 hv
  rw[Pq] at hi
  rcases Nat.eq_zero_or_pos i with rfl|hi'
  ·simp only[Qb];rw[hv2];exact hp
  ·exact hP v _ (by rw[<-hv2];exact List.pairwise_iff_getElem.1 h k (k+i) hv1 oM oM) hp
theorem GK {lt:α->α->Bool} (O:rv lt):∀ {X Y:List α},pC lt X->pC lt Y->SP lt X Y->X=Y:=by
 intro X
 induction X with
 |nil=>intro Y _ _ h;exact(h.1.nil_eq)
 |cons x X ih=>
  intro Y hX hY h
  cases Y with
  |nil=>exact absurd h.1.symm.nil_eq oS
  |cons y Y=>
   have hxy:lt y x=false:=by
    have:=h.1.symm.subset (O9:y∈y::Y)
    rcases ON.1 this with rfl|hm
    ·exact O.irr _
    ·exact(P4.1 hX).1 y hm
   have hyx:lt x y=false:=by
    have:=h.1.subset (O9:x∈x::X)
    rcases ON.1 this with rfl|hm
    ·exact O.irr _
    ·exact(P4.1 hY).1 x hm
   have hf:=h.2 x
   have e1:CH lt x x=true:=by simp[CH,O.irr]
   have e2:CH lt x y=true:=by simp[CH,hxy,hyx]
   rw[List.filter_cons_of_pos e1,List.filter_cons_of_pos e2] at hf
   injection hf with hf1 hf2
   subst hf1
   rw[ih (P4.1 hX).2 (P4.1 hY).2 ⟨(List.perm_cons _).1 h.1,fun z=> ?_⟩]
   have:=h.2 z
   rw[List.filter_cons,List.filter_cons] at this
   split at this
   ·injection this
   ·exact this
noncomputable def Hu (a b n:Int):List α×Int->Option ((List α×Int)⊕((List α×Int)⊕(Unit×List α))):=fun s=>
 bif decide (s.2<n) then FJ s.1 (IntKind.i64.wrap (a+s.2)) (IntKind.i64.wrap (b+s.2)) (fun L'=>some (.inl (L',IntKind.i64.wrap (s.2+1)))) else cS (some (.inl (s.1,s.2)))
noncomputable def Cg (L:List α) (a b n:Int):Option (Unit×List α):=(bx (Hu a b n) (L,0)).bind (bX fun s=>some ((),s.1))
theorem GL:∀ (U V A M B:List α) (a b n i:Nat),U.length=V.length->A.length+U.length+M.length+V.length<=1152921504606846976->a+i=A.length->b+i=A.length+U.length+M.length->n=i+U.length->
  bx (Hu (a:Int) (b:Int) (n:Int)) (A++U++M++V++B,(i:Int))=some (.inl (A++V++M++U++B,(n:Int))):=by
 intro U
 induction U with
 |nil=>
  intro V A M B a b n i hl hb h1 h2 h3
  have hV:V=[]:=by cases V with
   |nil=>rfl
   |cons _ _=>simp at hl
  subst hV
  have:n=i:=by simpa using h3
  subst this
  refine e_ ?_
  unfold Hu
  simp[cS]
 |cons u U ih=>
  intro V A M B a b n i hl hb h1 h2 h3
  cases V with
  |nil=>simp at hl
  |cons v V=>
   simp only[OW] at hl hb h2 h3
   have e:A++u::U++M++v::V++B=A++u::((U++M)++v::(V++B)):=by simp
   have w1:IntKind.i64.wrap ((a:Int)+(i:Int))=(A.length:Int):=by rw[bn _ oM oM];omega
   have w2:IntKind.i64.wrap ((b:Int)+(i:Int))=((A.length+1+(U++M).length:Nat):Int):=by rw[bn _ oM oM,OD];omega
   have w3:IntKind.i64.wrap ((i:Int)+1)=((i+1:Nat):Int):=cG i oM
   have hd:decide (((i:Nat):Int)<(n:Int))=true:=by simp;omega
   rw[e]
   refine(jN (s':=((A++[v])++U++(M++[u])++V++B,((i+1:Nat):Int))) ?_).trans ?_
   ·unfold Hu
    dsimp only
    rw[hd,w1,w2,w3]
    dsimp only[cond_true]
    rw[KD]
    simp
   ·rw[ih V (A++[v]) (M++[u]) B a b n (i+1) oM oT oT oT oM]
    simp
theorem Ci (U V A M B:List α) (a b n:Int) (hl:U.length=V.length) (hb:A.length+U.length+M.length+V.length<=1152921504606846976) (ha:a=(A.length:Nat)) (hbb:b=((A.length+U.length+M.length:Nat):Int)) (hn:n=(U.length:Nat)):
  Cg (A++U++M++V++B) a b n=some ((),A++V++M++U++B):=by
 subst ha hbb hn
 unfold Cg
 rw[show(0:Int)=((0:Nat):Int) from rfl,GL U V A M B _ _ _ 0 hl hb oM oM oM]
 rfl
noncomputable def KF (m:Int):List α×Int×Int->Option ((List α×Int×Int)⊕((List α×Int×Int)⊕(Unit×List α))):=fun s=>
 bif !decide (s.2.1=s.2.2) then
  bif decide (s.2.2<s.2.1) then(Cg s.1 (IntKind.i64.wrap (m - s.2.1)) m s.2.2).bind fun y=>some (.inl (y.2,IntKind.i64.wrap (s.2.1 - s.2.2),s.2.2))
  else(Cg s.1 (IntKind.i64.wrap (m - s.2.1)) (IntKind.i64.wrap (IntKind.i64.wrap (m+s.2.2) - s.2.1)) s.2.1).bind fun y=>some (.inl (y.2,s.2.1,IntKind.i64.wrap (s.2.2 - s.2.1)))
 else cS (some (.inl (s.1,s.2.1,s.2.2)))
noncomputable def LW (L:List α) (a m b:Int):Option (Unit×List α):=
 (bx (KF m) (L,IntKind.i64.wrap (m - a),IntKind.i64.wrap (b - m))).bind (bX fun s=>(Cg s.1 (IntKind.i64.wrap (m - s.2.1)) m s.2.1).bind fun y=>some ((),y.2))
theorem IB:∀ (n:Nat) (P U V S:List α) (m:Nat),U.length+V.length<=n->U≠[]->V≠[]->(P++U++V++S).length<=1152921504606846976->m=P.length+U.length->
  (bx (KF (m:Int)) (P++U++V++S,(U.length:Int),(V.length:Int))).bind (bX fun s=>(Cg s.1 (IntKind.i64.wrap ((m:Int) - s.2.1)) (m:Int) s.2.1).bind fun y=>some ((),y.2))=some ((),P++V++U++S):=by
 intro n
 induction n with
 |zero=>intro P U V S m h hU;cases U with
  |nil=>exact absurd rfl hU
  |cons _ _=>simp at h
 |succ n ih=>
  intro P U V S m h hU hV hb hm
  have lU:0<U.length:=P8.2 hU
  have lV:0<V.length:=P8.2 hV
  have hb':P.length+U.length+V.length+S.length<=1152921504606846976:=by simpa[Qt] using hb
  have w1:IntKind.i64.wrap ((m:Int) - (U.length:Int))=((P.length:Nat):Int):=by rw[bn _ oM oM];omega
  rcases Nat.lt_trichotomy U.length V.length with hlt|heq|hgt
  ·
   have hd:(!decide ((U.length:Int)=(V.length:Int)))=true:=by simp;omega
   have hd2:decide ((V.length:Int)<(U.length:Int))=false:=by simp;omega
   have w2:IntKind.i64.wrap (IntKind.i64.wrap ((m:Int)+(V.length:Int)) - (U.length:Int))=((P.length+V.length:Nat):Int):=by
    rw[bn ((m:Int)+(V.length:Int)) oM oM,bn _ oM oM];omega
   have w3:IntKind.i64.wrap ((V.length:Int) - (U.length:Int))=((V.length - U.length:Nat):Int):=by rw[bn _ oM oM];omega
   have e:V=V.take (V.length - U.length)++V.drop (V.length - U.length):=(OU _ _).symm
   generalize hV1:V.take (V.length - U.length)=V1 at e
   generalize hV2:V.drop (V.length - U.length)=V2 at e
   have l1:V1.length=V.length - U.length:=by rw[<-hV1,OT];omega
   have l2:V2.length=U.length:=by rw[<-hV2,Pq];omega
   have hs:=Ci U V2 P V1 S (P.length:Int) ((P.length+V.length:Nat):Int) (U.length:Int) l2.symm oM rfl oM rfl
   rw[jN (s':=(P++V2++V1++(U++S),(V2.length:Int),(V1.length:Int)))]
   ·rw[ih P V2 V1 (U++S) m oM (by intro h0;rw[h0] at l2;simp at l2;omega) (by intro h0;rw[h0] at l1;simp at l1;omega) oT oM]
    rw[e];simp
   ·unfold KF
    dsimp only
    rw[hd,hd2,w1,w2,w3]
    dsimp only[cond_true,cond_false]
    rw[show P++U++V++S=P++U++V1++V2++S by rw[e];simp,hs,l2,l1]
    simp
  ·have hd:(!decide ((U.length:Int)=(V.length:Int)))=false:=by simp;omega
   rw[e_ (a:= .inl (P++U++V++S,(U.length:Int),(V.length:Int)))]
   ·simp only[OA,bX]
    rw[w1,show P++U++V++S=P++U++[]++V++S by simp,Ci U V P [] S _ _ _ heq oT rfl oT rfl]
    simp
   ·unfold KF
    dsimp only
    rw[hd]
    simp[cS]
  ·have hd:(!decide ((U.length:Int)=(V.length:Int)))=true:=by simp;omega
   have hd2:decide ((V.length:Int)<(U.length:Int))=true:=by simp;omega
   have w3:IntKind.i64.wrap ((U.length:Int) - (V.length:Int))=((U.length - V.length:Nat):Int):=by rw[bn _ oM oM];omega
   have e:U=U.take V.length++U.drop V.length:=(OU _ _).symm
   generalize hU1:U.take V.length=U1 at e
   generalize hU2:U.drop V.length=U2 at e
   have l1:U1.length=V.length:=by rw[<-hU1,OT];omega
   have l2:U2.length=U.length - V.length:=by rw[<-hU2,Pq]
   have hs:=Ci U1 V P U2 S (P.length:Int) (m:Int) (V.length:Int) l1 oM rfl oM oM
   rw[jN (s':=(P++V++U2++U1++S,(U2.length:Int),(U1.length:Int)))]
   ·rw[ih (P++V) U2 U1 S m oM (by intro h0;rw[h0] at l2;simp at l2;omega) (by intro h0;rw[h0] at l1;simp at l1;omega) oT oT]
    rw[e];simp
   ·unfold KF
    dsimp only
    rw[hd,hd2,w1,w3]
    dsimp only[cond_true,cond_false]
    rw[show P++U++V++S=P++U1++U2++V++S by rw[e];simp,hs,l2,l1]
    simp
theorem LX (P U V S:List α) (a m b:Int) (hU:U≠[]) (hV:V≠[]) (hb:(P++U++V++S).length<=1152921504606846976) (ha:a=(P.length:Nat)) (hm:m=((P.length+U.length:Nat):Int)) (hbb:b=((P.length+U.length+V.length:Nat):Int)):
  LW (P++U++V++S) a m b=some ((),P++V++U++S):=by
 have hb':P.length+U.length+V.length+S.length<=1152921504606846976:=by simpa[Qt] using hb
 unfold LW
 rw[show IntKind.i64.wrap (m - a)=(U.length:Int) by rw[bn _ oM oM];omega,show IntKind.i64.wrap (b - m)=(V.length:Int) by rw[bn _ oM oM];omega,hm]
 exact IB _ P U V S _ (OH _) hU hV hb rfl
end
section
variable {α R:Type}
def IC (c:α->α->Option Int) (a:Int):List α×Int->Option ((List α×Int)⊕((List α×Int)⊕((List α×Int)⊕((List α×Int)⊕(Unit×List α))))):=fun t=>
 (kn (decide (a<t.2)) ((dg t.1 t.2).bind fun _=>t.1[t.2.toNat]?.bind fun e=>(dg t.1 (IntKind.i64.wrap (t.2 - 1))).bind fun _=>t.1[(IntKind.i64.wrap (t.2 - 1)).toNat]?.bind fun e2=>(c e e2).bind fun x=>some (decide (x<0)))).bind fun v=>
  bif v then FJ t.1 t.2 (IntKind.i64.wrap (t.2 - 1)) (fun L'=>some (.inl (L',IntKind.i64.wrap (t.2 - 1)))) else cS (some (.inl (t.1,t.2)))
noncomputable def KG (c:α->α->Option Int) (a b:Int):List α×Int->Option ((List α×Int)⊕((List α×Int)⊕(Unit×List α))):=fun s=>
 bif decide (s.2<b) then(bx (IC c a) (s.1,s.2)).bind (bX fun t=>some (.inl (t.1,IntKind.i64.wrap (s.2+1)))) else cS (some (.inl (s.1,s.2)))
noncomputable def ID (c:α->α->Option Int) (L:List α) (a b:Int):Option (Unit×List α):=(bx (KG c a b) (L,IntKind.i64.wrap (a+1))).bind (bX fun s=>some ((),s.1))
def Hv (Q:α->Prop) (c:α->α->Option Int) (lt:α->α->Bool):Prop:=∀ a b,Q a->Q b->∃ x,c a b=some x/\decide (x<0)=lt a b
theorem IE {Q:α->Prop} {c:α->α->Option Int} {lt:α->α->Bool} (hc:Hv Q c lt) (A:List α) (x:α) (hx:Q x):∀ (n:Nat) (P T:List α),(∀ y∈P,Q y)->P.length<=n->A.length+P.length<=1152921504606846976->
  ∃ P1 P2,P=P1++P2/\bx (IC c (A.length:Int)) (A++P++x::T,((A.length+P.length:Nat):Int))=some (.inl (A++P1++x::(P2++T),((A.length+P1.length:Nat):Int)))/\(∀ y∈P2,lt x y=true)/\(P1=[]\/∃ y,P1[P1.length - 1]?=some y/\lt x y=false):=by
 intro n
 induction n with
 |zero=>
  intro P T _ hn hb
  have:P=[]:=OX.1 oM
  subst this
  refine⟨[],[],rfl,e_ ?_,by simp,.inl rfl⟩
  unfold IC
  simp[kn,cS]
 |succ n ih=>
  intro P T hP hn hb
  rcases List.eq_nil_or_concat P with rfl|⟨K,y,rfl⟩
  ·refine⟨[],[],rfl,e_ ?_,by simp,.inl rfl⟩
   unfold IC
   simp[kn,cS]
  ·rw[List.concat_eq_append] at hP hn hb⊢
   simp only[OD,OW,Pr] at hn hb
   obtain⟨z,hz,hz2⟩:=hc x y hx (hP y oS)
   have w1:IntKind.i64.wrap (((A.length+(K++[y]).length:Nat):Int) - 1)=(((A++K).length:Nat):Int):=by rw[bn _ oT oT];simp;omega
   have hd:decide ((A.length:Int)<((A.length+(K++[y]).length:Nat):Int))=true:=by simp;omega
   have e:A++(K++[y])++x::T=(A++K)++y::([]++x::T):=by simp
   have e2:A.length+(K++[y]).length=(A++K).length+1+([]:List α).length:=by simp;omega
   have g1:((A++K)++y::([]++x::T))[(A++K).length+1+([]:List α).length]?=some x:=by
    rw[show(A++K)++y::([]++x::T)=(A++K++[y])++x::T by simp,show(A++K).length+1+([]:List α).length=(A++K++[y]).length by simp;omega];exact tV _ _ _
   have g2:=tV (A++K) ([]++x::T) y
   have hf:IC c (A.length:Int) (A++(K++[y])++x::T,((A.length+(K++[y]).length:Nat):Int))=bif lt x y then some (.inl (A++K++x::(y::T),(((A++K).length:Nat):Int))) else some (.inr (.inl (A++(K++[y])++x::T,((A.length+(K++[y]).length:Nat):Int)))):=by
    unfold IC
    dsimp only
    rw[hd,w1,e,e2]
    simp only[av,PO,g1,g2,OA,hz,hz2,kn,OL,KE]
    cases lt x y<;>simp[cS]
   cases hl:lt x y with
   |true=>
    rw[hl] at hf
    obtain⟨P1,P2,h1,h2,h3,h4⟩:=ih K (y::T) (fun z hz=>hP z (P6 _ hz)) oM oM
    refine⟨P1,P2++[y],by rw[h1];simp, ?_, ?_,h4⟩
    ·rw[jN hf,OD,h2];simp
    ·intro w hw
     rcases OV.1 hw with h|h
     ·exact h3 w h
     ·rw[OP.1 h];exact hl
   |false=>
    rw[hl] at hf
    refine⟨K++[y],[],by simp,by rw[e_ hf];simp,by simp,.inr ⟨y, ?_,hl⟩⟩
    simp
theorem IF {Q:α->Prop} {c:α->α->Option Int} {lt:α->α->Bool} (O:rv lt) (hc:Hv Q c lt) (A B:List α):∀ (T P:List α),(∀ y∈P++T,Q y)->pC lt P->A.length+P.length+T.length<=1152921504606846976->
  ∃ W,bx (KG c (A.length:Int) ((A.length+P.length+T.length:Nat):Int)) (A++P++T++B,((A.length+P.length:Nat):Int))=some (.inl (A++W++B,((A.length+P.length+T.length:Nat):Int)))/\pC lt W/\SP lt (P++T) W:=by
 intro T
 induction T with
 |nil=>
  intro P _ hP hb
  refine⟨P,e_ ?_,hP,by simpa using SP.refl lt P⟩
  unfold KG
  simp[cS]
 |cons x T ih=>
  intro P hQ hP hb
  simp only[OW] at hb
  obtain⟨P1,P2,h1,h2,h3,h4⟩:=IE hc A x (hQ x oS) P.length P (T++B) (fun y hy=>hQ y (P6 _ hy)) (OH _) oM
  have hP':pC lt P1/\pC lt P2/\∀ a∈P1,∀ b∈P2,lt b a=false:=lf.1 (h1▸hP)
  have h5:∀ y∈P1,lt x y=false:=by
   have:=wb (k:=P1.length) hP'.1 (P:=fun y=>lt x y=false) O (fun v v' h g=>O.tr v' v x h g) (by
    rcases h4 with h|h
    ·exact .inl (by rw[h];rfl)
    ·exact .inr h)
   rwa[PH] at this
  have hs:pC lt (P1++x::P2):=by
   refine lf.2 ⟨hP'.1,P4.2 ⟨fun y hy=>O.asym _ _ (h3 y hy),hP'.2.1⟩,fun a ha b hb=> ?_⟩
   rcases ON.1 hb with rfl|hb
   ·exact h5 a ha
   ·exact hP'.2.2 a ha b hb
  have hsp:SP lt (P++[x]) (P1++x::P2):=by
   rw[h1,OK]
   exact(SP.refl lt P1).app (SP.swap O (fun u hu v hv=>by rw[OP.1 hv];exact h3 u hu))
  have hQ':∀ y∈(P1++x::P2)++T,Q y:=by
   intro y hy
   rcases OV.1 hy with h|h
   ·rcases OV.1 (hsp.1.mem_iff.2 h) with h|h
    ·exact hQ y (P6 _ h)
    ·exact hQ y (by rw[OP.1 h];simp)
   ·exact hQ y (by simp[h])
  obtain⟨W,g1,g2,g3⟩:=ih (P1++x::P2) hQ' hs (by rw[show(P1++x::P2).length=P.length+1 by rw[h1];simp;omega];omega)
  have l1:(P1++x::P2).length=P.length+1:=by rw[h1];simp;omega
  refine⟨W, ?_,g2, ?_⟩
  ·rw[l1] at g1
   rw[jN (s':=(A++(P1++x::P2)++T++B,((A.length+(P.length+1):Nat):Int)))]
   ·rw[show A.length+P.length+(x::T).length=A.length+(P.length+1)+T.length by simp;omega]
    exact g1
   ·have w1:IntKind.i64.wrap (((A.length+P.length:Nat):Int)+1)=((A.length+(P.length+1):Nat):Int):=by rw[bn _ oM oM];omega
    have hd:decide (((A.length+P.length:Nat):Int)<((A.length+P.length+(x::T).length:Nat):Int))=true:=by simp;omega
    unfold KG
    dsimp only
    rw[hd,w1,show A++P++x::T++B=A++P++x::(T++B) by simp,h2]
    simp[bX]
  ·refine SP.trans ?_ g3
   rw[show P++x::T=(P++[x])++T by simp]
   exact hsp.app (SP.refl lt T)
theorem Hw {Q:α->Prop} {c:α->α->Option Int} {lt:α->α->Bool} (O:rv lt) (hc:Hv Q c lt) (A U B:List α) (hQ:∀ u∈U,Q u) (a b:Int) (ha:a=(A.length:Nat)) (hb:b=((A.length+U.length:Nat):Int)) (hl:A.length+U.length<=1152921504606846976):
  ∃ W,ID c (A++U++B) a b=some ((),A++W++B)/\pC lt W/\SP lt U W:=by
 subst ha hb
 unfold ID
 have w1:IntKind.i64.wrap ((A.length:Int)+1)=((A.length+1:Nat):Int):=by rw[bn _ oM oM];omega
 cases U with
 |nil=>
  refine⟨[], ?_,List.Pairwise.nil,SP.refl _ _⟩
  rw[w1,e_ (a:= .inl (A++[]++B,((A.length+1:Nat):Int)))]
  ·rfl
  ·unfold KG
   have hd:decide (((A.length+1:Nat):Int)<((A.length+([]:List α).length:Nat):Int))=false:=by simp;omega
   dsimp only
   rw[hd]
   rfl
 |cons u T=>
  obtain⟨W,g1,g2,g3⟩:=IF O hc A B T [u] hQ (LV lt u) (by simp at hl⊢;omega)
  refine⟨W, ?_,g2,g3⟩
  rw[w1,show A++u::T++B=A++[u]++T++B by simp,show A.length+1=A.length+[u].length from rfl,show A.length+(u::T).length=A.length+[u].length+T.length by simp;omega,g1]
  rfl
def Hx (c:α->α->Option Int) (L:List α) (i j:Int) (k:Int->Option R):Option R:=
 (dg L i).bind fun _=>L[i.toNat]?.bind fun e=>(dg L j).bind fun _=>L[j.toNat]?.bind fun e2=>(c e e2).bind k
theorem Cj {Q:α->Prop} {c:α->α->Option Int} {lt:α->α->Bool} (hc:Hv Q c lt) {L:List α} {i j:Nat} {x y:α} (hx:Q x) (hy:Q y) (hi:L[i]?=some x) (hj:L[j]?=some y):∃ z,(∀ {R:Type} (k:Int->Option R),Hx c L (i:Int) (j:Int) k=k z)/\decide (z<0)=lt x y:=by
 obtain⟨z,hz,hz2⟩:=hc x y hx hy
 refine⟨z,fun k=> ?_,hz2⟩
 unfold Hx
 simp only[av,PO,hi,hj,hz,OA]
def pZ (i j:Int):Int:=IntKind.i64.wrap (IntKind.u64.wrap (IntKind.i64.wrap (i+j))/2)
theorem AN (i j:Nat) (h:i+j<=4611686018427387904):pZ (i:Int) (j:Int)=(((i+j)/2:Nat):Int):=by
 unfold pZ
 rw[bn ((i:Int)+(j:Int)) oM oM,show((i:Int)+(j:Int))=((i+j:Nat):Int) by omega,IntKind.wrap_u64]
 rw[bn _ oM oM]
 omega
noncomputable def IW (c:α->α->Option Int) (L:List α) (I J:Int->Int) (T:Int->Bool):Int×Int->Option ((Int×Int)⊕((Int×Int)⊕R)):=fun s=>
 bif decide (s.1<s.2) then jV (FP .u64 1) (Hx c L (I (pZ s.1 s.2)) (J (pZ s.1 s.2)) fun x=>bif T x then some (.inl (IntKind.i64.wrap (pZ s.1 s.2+1),s.2)) else some (.inl (s.1,pZ s.1 s.2))) else cS (some (.inl (s.1,s.2)))
theorem GM {c:α->α->Option Int} {L:List α} {I J:Int->Int} {T:Int->Bool} (q:Nat->Bool) (lo hi:Nat) (hh:hi<=1152921504606846976)
  (hq:∀ h,lo<=h->h<hi->∃ z,(∀ {R:Type} (k:Int->Option R),Hx c L (I (h:Int)) (J (h:Int)) k=k z)/\T z=q h):∀ (n i j:Nat),j - i<=n->lo<=i->i<=j->j<=hi->(i=lo\/q (i - 1)=true)->(j=hi\/q j=false)->
  ∃ r,lo<=r/\r<=hi/\bx (IW (R:=R) c L I J T) ((i:Int),(j:Int))=some (.inl ((r:Int),(r:Int)))/\(r=lo\/q (r - 1)=true)/\(r=hi\/q r=false):=by
 intro n
 induction n with
 |zero=>
  intro i j hn h1 h2 h3 h4 h5
  have:i=j:=by omega
  subst this
  refine⟨i,h1,h3,e_ ?_,h4,h5⟩
  unfold IW
  simp[cS]
 |succ n ih=>
  intro i j hn h1 h2 h3 h4 h5
  rcases PW h2 with hlt|rfl
  ·have hd:decide ((i:Int)<(j:Int))=true:=by simp;omega
   have hm:=AN i j oM
   obtain⟨z,hz,hz2⟩:=hq ((i+j)/2) oM oM
   have w1:IntKind.i64.wrap ((((i+j)/2:Nat):Int)+1)=(((i+j)/2+1:Nat):Int):=cG _ oM
   have hf:IW (R:=R) c L I J T ((i:Int),(j:Int))=bif q ((i+j)/2) then some (.inl ((((i+j)/2+1:Nat):Int),(j:Int))) else some (.inl ((i:Int),(((i+j)/2:Nat):Int))):=by
    unfold IW
    dsimp only
    rw[hd,hm,w1]
    dsimp only[cond_true]
    rw[hz,hz2]
    rfl
   cases hq2:q ((i+j)/2) with
   |true=>
    rw[hq2] at hf
    obtain⟨r,g1,g2,g3,g4⟩:=ih ((i+j)/2+1) j oM oM oM h3 (.inr (by simpa using hq2)) h5
    exact⟨r,g1,g2,by rw[jN hf];exact g3,g4⟩
   |false=>
    rw[hq2] at hf
    obtain⟨r,g1,g2,g3,g4⟩:=ih i ((i+j)/2) oM h1 oM oM h4 (.inr hq2)
    exact⟨r,g1,g2,by rw[jN hf];exact g3,g4⟩
  ·refine⟨i,h1,h3,e_ ?_,h4,h5⟩
   unfold IW
   simp[cS]
noncomputable def N0 (i:Int):List α×Int->Option ((List α×Int)⊕((List α×Int)⊕(Unit×List α))):=fun s=>
 bif decide (s.2<IntKind.i64.wrap (i - 1)) then FJ s.1 s.2 (IntKind.i64.wrap (s.2+1)) (fun L'=>some (.inl (L',IntKind.i64.wrap (s.2+1)))) else cS (some (.inl (s.1,s.2)))
theorem KH (x:α) (B:List α):∀ (V A:List α) (i:Nat),A.length+V.length<=1152921504606846976->i=A.length+V.length+1->bx (N0 (i:Int)) (A++x::V++B,(A.length:Int))=some (.inl (A++V++x::B,((i - 1:Nat):Int))):=by
 intro V
 induction V with
 |nil=>
  intro A i hb hi
  subst hi
  have w:IntKind.i64.wrap (((A.length+([]:List α).length+1:Nat):Int) - 1)=(A.length:Int):=by
   rw[Pr] at *
   rw[bn _ oM oM];omega
  refine e_ ?_
  unfold N0
  dsimp only
  rw[w]
  simp[cS]
 |cons v V ih=>
  intro A i hb hi
  simp only[OW] at hb hi
  have w:IntKind.i64.wrap ((i:Int) - 1)=((A.length+V.length+1:Nat):Int):=by rw[bn _ oM oM];omega
  have hd:decide ((A.length:Int)<((A.length+V.length+1:Nat):Int))=true:=by simp;omega
  have w2:IntKind.i64.wrap ((A.length:Int)+1)=((A.length+1+([]:List α).length:Nat):Int):=by rw[bn _ oM oM];simp
  rw[jN (s':=((A++[v])++x::V++B,((A++[v]).length:Int)))]
  ·rw[ih (A++[v]) i oT oT]
   simp
  ·unfold N0
   dsimp only
   rw[w,hd,w2]
   dsimp only[cond_true]
   rw[show A++x::v::V++B=A++x::([]++v::(V++B)) by simp,KD]
   simp
noncomputable def Nt (i:Int):List α×Int->Option ((List α×Int)⊕((List α×Int)⊕(Unit×List α))):=fun s=>
 bif decide (i<s.2) then FJ s.1 s.2 (IntKind.i64.wrap (s.2 - 1)) (fun L'=>some (.inl (L',IntKind.i64.wrap (s.2 - 1)))) else cS (some (.inl (s.1,s.2)))
theorem KI (y:α) (A:List α):∀ (n:Nat) (U B:List α),U.length<=n->A.length+U.length<=1152921504606846976->bx (Nt (A.length:Int)) (A++U++y::B,((A.length+U.length:Nat):Int))=some (.inl (A++y::U++B,(A.length:Int))):=by
 intro n
 induction n with
 |zero=>
  intro U B hn hb
  have:U=[]:=OX.1 oM
  subst this
  refine e_ ?_
  unfold Nt
  simp[cS]
 |succ n ih=>
  intro U B hn hb
  rcases List.eq_nil_or_concat U with rfl|⟨Q,u,rfl⟩
  ·refine e_ ?_
   unfold Nt
   simp[cS]
  ·rw[List.concat_eq_append] at hn hb⊢
   simp only[OD,OW,Pr] at hn hb
   have hd:decide ((A.length:Int)<((A.length+(Q++[u]).length:Nat):Int))=true:=by simp;omega
   have w1:IntKind.i64.wrap (((A.length+(Q++[u]).length:Nat):Int) - 1)=(((A++Q).length:Nat):Int):=by rw[bn _ oT oT];simp;omega
   rw[jN (s':=(A++Q++y::(u::B),((A.length+Q.length:Nat):Int)))]
   ·rw[ih Q (u::B) oM oM]
    simp
   ·unfold Nt
    dsimp only
    rw[hd,w1,show A++(Q++[u])++y::B=(A++Q)++u::([]++y::B) by simp,show A.length+(Q++[u]).length=(A++Q).length+1+([]:List α).length by simp;omega]
    dsimp only[cond_true]
    rw[KE]
    simp
end
section
variable {α:Type}
noncomputable def Hy (rec:List α->Int->Int->Int->Option (Unit×List α)) (L:List α) (a s mid e b:Int):Option (Unit×List α):=
 (kn (decide (a<s)) (some (decide (s<mid)))).bind fun v=>bif v then(rec L a s mid).bind fun y=>(kn (decide (mid<e)) (some (decide (e<b)))).bind fun v=>bif v then(rec y.2 mid e b).bind fun y=>some ((),y.2) else some ((),y.2)
  else(kn (decide (mid<e)) (some (decide (e<b)))).bind fun v=>bif v then(rec L mid e b).bind fun y=>some ((),y.2) else some ((),L)
noncomputable def KJ (rec:List α->Int->Int->Int->Option (Unit×List α)) (L:List α) (a m b:Int):Int×Int->Option (Unit×List α):=fun s=>
 (kn (decide (s.1<m)) (some (decide (m<IntKind.i64.wrap (IntKind.i64.wrap (pZ a b+m) - s.1))))).bind fun v=>bif v then(LW L s.1 m (IntKind.i64.wrap (IntKind.i64.wrap (pZ a b+m) - s.1))).bind fun y=>Hy rec y.2 a s.1 (pZ a b) (IntKind.i64.wrap (IntKind.i64.wrap (pZ a b+m) - s.1)) b
  else Hy rec L a s.1 (pZ a b) (IntKind.i64.wrap (IntKind.i64.wrap (pZ a b+m) - s.1)) b
noncomputable def Nh (c:α->α->Option Int) (rec:List α->Int->Int->Int->Option (Unit×List α)) (L:List α) (a m b:Int):Option (Unit×List α):=
 bif decide (IntKind.i64.wrap (m - a)=1) then(bx (IW c L (fun h=>h) (fun _=>a) (fun x=>decide (x<0))) (m,b)).bind (bX fun s=>(bx (N0 s.1) (L,a)).bind (bX fun s=>some ((),s.1)))
 else bif decide (IntKind.i64.wrap (b - m)=1) then(bx (IW c L (fun _=>m) (fun h=>h) (fun x=> !decide (x<0))) (a,m)).bind (bX fun s=>(bx (Nt s.1) (L,m)).bind (bX fun s=>some ((),s.1)))
 else jV (FP .u64 1) (bif decide (pZ a b<m) then(bx (IW c L (fun h=>IntKind.i64.wrap (IntKind.i64.wrap (IntKind.i64.wrap (pZ a b+m) - 1) - h)) (fun h=>h) (fun x=> !decide (x<0))) (IntKind.i64.wrap (IntKind.i64.wrap (pZ a b+m) - b),pZ a b)).bind (bX (KJ rec L a m b))
  else(bx (IW c L (fun h=>IntKind.i64.wrap (IntKind.i64.wrap (IntKind.i64.wrap (pZ a b+m) - 1) - h)) (fun h=>h) (fun x=> !decide (x<0))) (a,m)).bind (bX (KJ rec L a m b)))
noncomputable def IG (c:α->α->Option Int):Nat->List α->Int->Int->Int->Option (Unit×List α)
 |0=>fun _ _ _ _=>none
 |fu+1=>Nh c (IG c fu)
theorem KL (A U V B:List α) (k:Nat) (h:k<U.length):(A++U++V++B)[A.length+k]?=U[k]?:=by
 rw[OK,OK,Pe oM,show A.length+k - A.length=k by omega,Py h]
theorem KM (A U V B:List α) (k:Nat) (h:k<V.length):(A++U++V++B)[A.length+U.length+k]?=V[k]?:=by
 rw[OK,Pe oS,OD,show A.length+U.length+k - (A.length+U.length)=k by omega,Py h]
def FK (Q:α->Prop) (lt:α->α->Bool) (n:Nat) (rec:List α->Int->Int->Int->Option (Unit×List α)):Prop:=∀ A U V B:List α,U≠[]->V≠[]->(∀ u∈U,Q u)->(∀ v∈V,Q v)->pC lt U->pC lt V->U.length+V.length<=n->A.length+U.length+V.length+B.length<=1152921504606846976->
 ∃ W,rec (A++U++V++B) ((A.length:Nat):Int) ((A.length+U.length:Nat):Int) ((A.length+U.length+V.length:Nat):Int)=some ((),A++W++B)/\pC lt W/\SP lt (U++V) W
theorem Hz (x y:Bool):kn x (some y)=some (x&&y):=by cases x<;>rfl
theorem FL {Q:α->Prop} {lt:α->α->Bool} {n:Nat} {rec:List α->Int->Int->Int->Option (Unit×List α)} (hr:FK Q lt n rec) (A U V B:List α) (qU:∀ u∈U,Q u) (qV:∀ v∈V,Q v) (hU:pC lt U) (hV:pC lt V) (hn:U.length+V.length<=n) (hb:A.length+U.length+V.length+B.length<=1152921504606846976) (k:Unit×List α->Option (Unit×List α)) (K:Option (Unit×List α))
  (hK:K=k ((),A++U++V++B)):
  ∃ W,((kn (decide (((A.length:Nat):Int)<((A.length+U.length:Nat):Int))) (some (decide (((A.length+U.length:Nat):Int)<((A.length+U.length+V.length:Nat):Int))))).bind fun v=>bif v then(rec (A++U++V++B) ((A.length:Nat):Int) ((A.length+U.length:Nat):Int) ((A.length+U.length+V.length:Nat):Int)).bind k else K)=k ((),A++W++B)/\pC lt W/\SP lt (U++V) W:=by
 rw[Hz,OA]
 cases U with
 |nil=>
  refine⟨V, ?_,hV,SP.refl _ _⟩
  have:decide (((A.length:Nat):Int)<((A.length+([]:List α).length:Nat):Int))=false:=by simp
  rw[this,hK];simp
 |cons u U=>
  cases V with
  |nil=>
   refine⟨u::U, ?_,hU,by simpa using SP.refl lt (u::U)⟩
   have:decide (((A.length+(u::U).length:Nat):Int)<((A.length+(u::U).length+([]:List α).length:Nat):Int))=false:=by simp
   rw[this,hK];simp
  |cons v V=>
   obtain⟨W,h1,h2⟩:=hr A (u::U) (v::V) B oS oS qU qV hU hV hn hb
   refine⟨W, ?_,h2⟩
   have e1:decide (((A.length:Nat):Int)<((A.length+(u::U).length:Nat):Int))=true:=by simp;omega
   have e2:decide (((A.length+(u::U).length:Nat):Int)<((A.length+(u::U).length+(v::V).length:Nat):Int))=true:=by simp;omega
   rw[e1,e2,h1];rfl
theorem KN {Q:α->Prop} {lt:α->α->Bool} {n:Nat} {rec:List α->Int->Int->Int->Option (Unit×List α)} (hr:FK Q lt n rec) (A U1 V1 U2 V2 B:List α) (q1:∀ u∈U1,Q u) (q2:∀ u∈V1,Q u) (q3:∀ u∈U2,Q u) (q4:∀ u∈V2,Q u) (h1:pC lt U1) (h2:pC lt V1) (h3:pC lt U2) (h4:pC lt V2) (hn1:U1.length+V1.length<=n) (hn2:U2.length+V2.length<=n)
  (hb:A.length+U1.length+V1.length+U2.length+V2.length+B.length<=1152921504606846976) (a s mid e b:Int) (ha:a=(A.length:Nat)) (hs:s=((A.length+U1.length:Nat):Int)) (hm:mid=((A.length+U1.length+V1.length:Nat):Int)) (he:e=((A.length+U1.length+V1.length+U2.length:Nat):Int)) (hbb:b=((A.length+U1.length+V1.length+U2.length+V2.length:Nat):Int)):
  ∃ W1 W2,Hy rec (A++U1++V1++U2++V2++B) a s mid e b=some ((),A++W1++W2++B)/\pC lt W1/\SP lt (U1++V1) W1/\pC lt W2/\SP lt (U2++V2) W2:=by
 obtain⟨W1,g1,g2,g3⟩:=FL hr A U1 V1 (U2++V2++B) q1 q2 h1 h2 hn1 oT (fun y=>(kn (decide (mid<e)) (some (decide (e<b)))).bind fun v=>bif v then(rec y.2 mid e b).bind fun y=>some ((),y.2) else some ((),y.2))
  ((kn (decide (mid<e)) (some (decide (e<b)))).bind fun v=>bif v then(rec (A++U1++V1++(U2++V2++B)) mid e b).bind fun y=>some ((),y.2) else some ((),A++U1++V1++(U2++V2++B))) rfl
 have l1:W1.length=U1.length+V1.length:=by rw[<-g3.1.length_eq,OD]
 obtain⟨W2,k1,k2,k3⟩:=FL hr (A++W1) U2 V2 B q3 q4 h3 h4 hn2 (by rw[OD];omega) (fun y=>some ((),y.2)) (some ((),A++W1++U2++V2++B)) rfl
 refine⟨W1,W2, ?_,g2,g3,k2,k3⟩
 unfold Hy
 have e0:A++U1++V1++U2++V2++B=A++U1++V1++(U2++V2++B):=by simp
 rw[e0]
 rw[<-hs,<-hm,<-ha] at g1
 rw[g1]
 rw[show(A++W1).length+U2.length=A.length+U1.length+V1.length+U2.length by rw[OD];omega,show(A++W1).length=A.length+U1.length+V1.length by rw[OD];omega,<-he,<-hm,<-hbb] at k1
 rw[show A++W1++(U2++V2++B)=A++W1++U2++V2++B by simp]
 exact k1
theorem IH {lt:α->α->Bool} (O:rv lt) {U V W1 W2:List α} {k l:Nat} (hU:pC lt U) (hV:pC lt V)
  (c1:k=0\/V.length<=l\/∃ u v,U[k - 1]?=some u/\V[l]?=some v/\lt v u=false) (c2:l=0\/U.length<=k\/∃ u v,V[l - 1]?=some v/\U[k]?=some u/\lt v u=true)
  (h1:pC lt W1) (h2:SP lt (U.take k++V.take l) W1) (h3:pC lt W2) (h4:SP lt (U.drop k++V.drop l) W2):pC lt (W1++W2)/\SP lt (U++V) (W1++W2):=by
 have d1:∀ u∈U.take k,∀ v∈V.drop l,lt v u=false:=by
  rcases c1 with rfl|h|⟨u,v,g1,g2,g3⟩
  ·simp
  ·rw[P_ h];simp
  ·intro u' hu'
   have a1:lt v u'=false:=wb hU (P:=fun w=>lt v w=false) O (fun w w' h g=>O.tr w' w v h g) (.inr ⟨u,g1,g3⟩) u' hu'
   exact yX hV (P:=fun w=>lt w u'=false) (fun w w' h g=>O.tr u' w w' g h) (.inr ⟨v,g2,a1⟩)
 have d2:∀ u∈U.drop k,∀ v∈V.take l,lt v u=true:=by
  rcases c2 with rfl|h|⟨u,v,g1,g2,g3⟩
  ·simp
  ·rw[P_ h];simp
  ·intro u' hu'
   have a1:lt v u'=true:=yX hU (P:=fun w=>lt v w=true) (fun w w' h g=>O.lt_right h g) (.inr ⟨u,g2,g3⟩) u' hu'
   exact wb hV (P:=fun w=>lt w u'=true) O (fun w w' h g=>O.lt_left h g) (.inr ⟨v,g1,a1⟩)
 have sU:pC lt (U.take k++U.drop k):=by rwa[OU]
 have sV:pC lt (V.take l++V.drop l):=by rwa[OU]
 have pU:=(lf.1 sU).2.2
 have pV:=(lf.1 sV).2.2
 refine⟨lf.2 ⟨h1,h3,fun a ha b hb=> ?_⟩, ?_⟩
 ·rcases OV.1 (h2.1.symm.subset ha) with ha|ha<;>rcases OV.1 (h4.1.symm.subset hb) with hb|hb
  ·exact pU a ha b hb
  ·exact d1 a ha b hb
  ·exact O.asym _ _ (d2 b hb a ha)
  ·exact pV a ha b hb
 ·have e:U++V=U.take k++(U.drop k++V.take l)++V.drop l:=by
   rw[<-OK,OU,OK,OU]
  rw[e]
  refine((SP.refl lt (U.take k)).app (SP.swap O d2)).app (SP.refl lt (V.drop l))|>.trans ?_
  rw[show U.take k++(V.take l++U.drop k)++V.drop l=(U.take k++V.take l)++(U.drop k++V.drop l) by simp]
  exact h2.app h4
theorem II {Q:α->Prop} {lt:α->α->Bool} (O:rv lt) {n:Nat} {rec:List α->Int->Int->Int->Option (Unit×List α)} (hr:FK Q lt n rec) (A U V B:List α) (qU:∀ u∈U,Q u) (qV:∀ v∈V,Q v) (hU:pC lt U) (hV:pC lt V) (hb:A.length+U.length+V.length+B.length<=1152921504606846976) (r:Nat) (k l:Nat)
  (hk:r=A.length+k) (hk2:k<=U.length) (hl2:l<=V.length) (hkl:A.length+k+l=(A.length+(A.length+U.length+V.length))/2) (hn:U.length+V.length<=2 * n)
  (c1:k=0\/V.length<=l\/∃ u v,U[k - 1]?=some u/\V[l]?=some v/\lt v u=false) (c2:l=0\/U.length<=k\/∃ u v,V[l - 1]?=some v/\U[k]?=some u/\lt v u=true):
  ∃ W,KJ rec (A++U++V++B) ((A.length:Nat):Int) ((A.length+U.length:Nat):Int) ((A.length+U.length+V.length:Nat):Int) ((r:Int),(r:Int))=some ((),A++W++B)/\pC lt W/\SP lt (U++V) W:=by
 have lU1:(U.take k).length=k:=by rw[OT];omega
 have lU2:(U.drop k).length=U.length - k:=Pq
 have lV1:(V.take l).length=l:=by rw[OT];omega
 have lV2:(V.drop l).length=V.length - l:=Pq
 have sU:pC lt (U.take k++U.drop k):=by rwa[OU]
 have sV:pC lt (V.take l++V.drop l):=by rwa[OU]
 have wm:pZ ((A.length:Nat):Int) ((A.length+U.length+V.length:Nat):Int)=((A.length+k+l:Nat):Int):=by rw[AN _ _ oM,hkl]
 have we:IntKind.i64.wrap (IntKind.i64.wrap (((A.length+k+l:Nat):Int)+((A.length+U.length:Nat):Int)) - (r:Int))=((A.length+U.length+l:Nat):Int):=by
  rw[bn (((A.length+k+l:Nat):Int)+((A.length+U.length:Nat):Int)) oM oM,bn _ oM oM];omega
 obtain⟨W1,W2,t1,t2,t3,t4,t5⟩:=KN hr A (U.take k) (V.take l) (U.drop k) (V.drop l) B (fun u h=>qU u (O0 h)) (fun u h=>qV u (O0 h)) (fun u h=>qU u (Pg h)) (fun u h=>qV u (Pg h)) (lf.1 sU).1 (lf.1 sV).1 (lf.1 sU).2.1 (lf.1 sV).2.1 oM oM oM
  ((A.length:Nat):Int) (r:Int) ((A.length+k+l:Nat):Int) ((A.length+U.length+l:Nat):Int) ((A.length+U.length+V.length:Nat):Int) rfl oM oM oM oM
 obtain⟨m1,m2⟩:=IH O hU hV c1 c2 t2 t3 t4 t5
 refine⟨W1++W2, ?_,m1,m2⟩
 unfold KJ
 dsimp only
 rw[wm,we,Hz,OA,show A++(W1++W2)++B=A++W1++W2++B by simp,<-t1]
 have e0:A++U++V++B=(A++U.take k)++U.drop k++V.take l++(V.drop l++B):=by
  have e9:A++U++V++B=A++(U.take k++U.drop k)++(V.take l++V.drop l)++B:=by rw[OU,OU]
  rw[e9];simp only[OK]
 by_cases hc:k<U.length/\0<l
 ·have e1:decide ((r:Int)<((A.length+U.length:Nat):Int))=true:=by simp;omega
  have e2:decide (((A.length+U.length:Nat):Int)<((A.length+U.length+l:Nat):Int))=true:=by simp;omega
  rw[e1,e2,e0,LX (A++U.take k) (U.drop k) (V.take l) (V.drop l++B) _ _ _ (by intro h0;rw[h0] at lU2;simp at lU2;omega) (by intro h0;rw[h0] at lV1;simp at lV1;omega) (by simp only[OD];omega) (by rw[OD];omega) (by rw[OD];omega) (by rw[OD];omega)]
  simp
 ·have e1:(decide ((r:Int)<((A.length+U.length:Nat):Int))&&decide (((A.length+U.length:Nat):Int)<((A.length+U.length+l:Nat):Int)))=false:=by
   rw[PC,Pb,Pb];omega
  rw[e1,e0]
  have e2:(A++U.take k)++U.drop k++V.take l++(V.drop l++B)=A++U.take k++V.take l++U.drop k++V.drop l++B:=by
   rcases Nat.eq_zero_or_pos l with rfl|hl
   ·simp
   ·rw[P_ (show U.length<=k by omega)];simp only[OK,OR]
  rw[e2];rfl
end
section
variable {α:Type}
theorem KO {Q:α->Prop} {c:α->α->Option Int} {lt:α->α->Bool} (O:rv lt) (hc:Hv Q c lt) {n:Nat} {rec:List α->Int->Int->Int->Option (Unit×List α)} (hr:FK Q lt n rec) (A U V B:List α) (qU:∀ u∈U,Q u) (qV:∀ v∈V,Q v) (hU:pC lt U) (hV:pC lt V) (hb:A.length+U.length+V.length+B.length<=1152921504606846976) (hn:U.length+V.length<=2 * n)
  (lo hi mid:Nat) (hmid:mid=(A.length+(A.length+U.length+V.length))/2) (h1:A.length<=lo) (h2:lo<=hi) (h3:hi<=A.length+U.length) (h4:hi<=mid) (h5:mid+(A.length+U.length)<=A.length+U.length+V.length+lo) (h6:lo=A.length\/mid+(A.length+U.length)=A.length+U.length+V.length+lo) (h7:hi=A.length+U.length\/hi=mid):
  ∃ W,(bx (IW c (A++U++V++B) (fun h=>IntKind.i64.wrap (IntKind.i64.wrap (IntKind.i64.wrap (pZ ((A.length:Nat):Int) ((A.length+U.length+V.length:Nat):Int)+((A.length+U.length:Nat):Int)) - 1) - h)) (fun h=>h) (fun x=> !decide (x<0))) ((lo:Int),(hi:Int))).bind (bX (KJ rec (A++U++V++B) ((A.length:Nat):Int) ((A.length+U.length:Nat):Int) ((A.length+U.length+V.length:Nat):Int)))=some ((),A++W++B)/\pC lt W/\SP lt (U++V) W:=by
 have wm:pZ ((A.length:Nat):Int) ((A.length+U.length+V.length:Nat):Int)=((mid:Nat):Int):=by rw[AN _ _ oM,hmid]
 let q:Nat->Bool:=fun h=>match U[h - A.length]?,V[mid - 1 - h]? with
  |some u,some v=> !lt v u
  |_,_=>true
 have hx:∀ h,lo<=h->h<hi->∃ u v,U[h - A.length]?=some u/\V[mid - 1 - h]?=some v/\q h= !lt v u:=by
  intro h g1 g2
  have a1:h - A.length<U.length:=by omega
  have a2:mid - 1 - h<V.length:=by omega
  refine⟨_,_,OJ a1,OJ a2, ?_⟩
  simp only[q,OJ a1,OJ a2]
 obtain⟨r,r1,r2,r3,r4,r5⟩:=GM (R:=Unit×List α) (c:=c) (L:=A++U++V++B) (I:=fun h=>IntKind.i64.wrap (IntKind.i64.wrap (IntKind.i64.wrap (pZ ((A.length:Nat):Int) ((A.length+U.length+V.length:Nat):Int)+((A.length+U.length:Nat):Int)) - 1) - h)) (J:=fun h=>h) (T:=fun x=> !decide (x<0)) q lo hi oM (by
  intro h g1 g2
  obtain⟨u,v,e1,e2,e3⟩:=hx h g1 g2
  have b1:=KL A U V B (h - A.length) oM
  have b2:=KM A U V B (mid - 1 - h) oM
  rw[e1] at b1
  rw[e2] at b2
  obtain⟨z,z1,z2⟩:=Cj hc (qV v (OE e2)) (qU u (OE e1)) b2 b1
  refine⟨z,fun{R} k=> ?_,by rw[e3,<-z2]⟩
  rw[wm,bn (((mid:Nat):Int)+((A.length+U.length:Nat):Int)) oM oM,bn (((mid:Nat):Int)+((A.length+U.length:Nat):Int) - 1) oM oM,bn _ oM oM,
   show(((mid:Nat):Int)+((A.length+U.length:Nat):Int) - 1 - (h:Int))=((A.length+U.length+(mid - 1 - h):Nat):Int) by omega,show(h:Int)=((A.length+(h - A.length):Nat):Int) by omega]
  exact z1 k) (hi - lo) lo hi oM (OH _) h2 (OH _) (.inl rfl) (.inl rfl)
 rw[r3]
 refine II O hr A U V B qU qV hU hV hb r (r - A.length) (mid - r) oM oM oM oM hn ?_ ?_
 ·rcases r4 with r4|r4
  ·rcases h6 with h6|h6
   ·exact .inl oM
   ·exact .inr (.inl oM)
  ·rcases PW r1 with r1|r1
   ·obtain⟨u,v,e1,e2,e3⟩:=hx (r - 1) oM oM
    refine .inr (.inr ⟨u,v, ?_, ?_, ?_⟩)
    ·rw[show r - A.length - 1=r - 1 - A.length by omega];exact e1
    ·rw[show mid - r=mid - 1 - (r - 1) by omega];exact e2
    ·rw[e3] at r4;simpa using r4
   ·rcases h6 with h6|h6
    ·exact .inl oM
    ·exact .inr (.inl oM)
 ·rcases r5 with r5|r5
  ·rcases h7 with h7|h7
   ·exact .inr (.inl oM)
   ·exact .inl oM
  ·rcases PW r2 with r2|r2
   ·obtain⟨u,v,e1,e2,e3⟩:=hx r oM oM
    refine .inr (.inr ⟨u,v, ?_,e1, ?_⟩)
    ·rw[show mid - r - 1=mid - 1 - r by omega];exact e2
    ·rw[e3] at r5;simpa using r5
   ·rcases h7 with h7|h7
    ·exact .inr (.inl oM)
    ·exact .inl oM
theorem LY {Q:α->Prop} {c:α->α->Option Int} {lt:α->α->Bool} (O:rv lt) (hc:Hv Q c lt) (A V B:List α) (x:α) (qx:Q x) (qV:∀ v∈V,Q v) (hV:pC lt V) (hb:A.length+V.length+B.length+1<=1152921504606846976):
  ∃ W,(bx (IW c (A++[x]++V++B) (fun h=>h) (fun _=>((A.length:Nat):Int)) (fun x=>decide (x<0))) (((A.length+1:Nat):Int),((A.length+1+V.length:Nat):Int))).bind (bX fun s=>(bx (N0 s.1) ((A++[x]++V++B),((A.length:Nat):Int))).bind (bX fun s=>some ((),s.1)))=some ((),A++W++B)/\pC lt W/\SP lt ([x]++V) W:=by
 let q:Nat->Bool:=fun h=>match V[h - (A.length+1)]? with
  |some v=>lt v x
  |_=>true
 have hx:∀ h,A.length+1<=h->h<A.length+1+V.length->∃ v,V[h - (A.length+1)]?=some v/\q h=lt v x:=by
  intro h g1 g2
  have a2:h - (A.length+1)<V.length:=by omega
  refine⟨_,OJ a2, ?_⟩
  simp only[q,OJ a2]
 obtain⟨r,r1,r2,r3,r4,r5⟩:=GM (R:=Unit×List α) (c:=c) (L:=A++[x]++V++B) (I:=fun h=>h) (J:=fun _=>((A.length:Nat):Int)) (T:=fun x=>decide (x<0)) q (A.length+1) (A.length+1+V.length) oM (by
  intro h g1 g2
  obtain⟨v,e2,e3⟩:=hx h g1 g2
  have b1:=KL A [x] V B 0 oS
  have b2:=KM A [x] V B (h - (A.length+1)) oM
  rw[e2] at b2
  obtain⟨z,z1,z2⟩:=Cj hc (qV v (OE e2)) qx b2 b1
  refine⟨z,fun{R} k=> ?_,by rw[e3,<-z2]⟩
  rw[show(h:Int)=((A.length+[x].length+(h - (A.length+1)):Nat):Int) by simp only[OW,Pr];omega]
  exact z1 k) V.length (A.length+1) (A.length+1+V.length) oM (OH _) oM (OH _) (.inl rfl) (.inl rfl)
 have p1:∀ v∈V.take (r - (A.length+1)),lt v x=true:=wb hV (P:=fun w=>lt w x=true) O (fun w w' h g=>O.lt_left h g) (by
  rcases PW r1 with r1|r1
  ·rcases r4 with r4|r4
   ·exact .inl oM
   ·obtain⟨v,e2,e3⟩:=hx (r - 1) oM oM
    exact .inr ⟨v,by rw[show r - (A.length+1) - 1=r - 1 - (A.length+1) by omega];exact e2,by rw[<-e3];exact r4⟩
  ·exact .inl oM)
 have p2:∀ v∈V.drop (r - (A.length+1)),lt v x=false:=yX hV (P:=fun w=>lt w x=false) (fun w w' h g=>O.tr x w w' g h) (by
  rcases PW r2 with r2|r2
  ·rcases r5 with r5|r5
   ·exact .inl oM
   ·obtain⟨v,e2,e3⟩:=hx r oM oM
    exact .inr ⟨v,e2,by rw[<-e3];exact r5⟩
  ·exact .inl oM)
 have hk:(V.take (r - (A.length+1))).length=r - (A.length+1):=by rw[OT];omega
 have e:=OU (r - (A.length+1)) V
 generalize V.take (r - (A.length+1))=V1 at *
 generalize V.drop (r - (A.length+1))=V2 at *
 subst e
 have hs:=lf.1 hV
 refine⟨V1++x::V2, ?_, ?_, ?_⟩
 ·rw[r3]
  simp only[OA,bX]
  rw[show A++[x]++(V1++V2)++B=A++x::V1++(V2++B) by simp,KH x (V2++B) V1 A r (by simp only[OD] at hb;omega) oM]
  simp[bX]
 ·exact lf.2 ⟨hs.1,P4.2 ⟨p2,hs.2.1⟩,fun a ha b hb=>by
   rcases ON.1 hb with rfl|hb
   ·exact O.asym _ _ (p1 a ha)
   ·exact hs.2.2 a ha b hb⟩
 ·rw[<-OK,show V1++x::V2=(V1++[x])++V2 by simp]
  exact(SP.swap O (fun u hu v hv=>by rw[OP.1 hu];exact p1 v hv)).app (SP.refl lt V2)
theorem LZ {Q:α->Prop} {c:α->α->Option Int} {lt:α->α->Bool} (O:rv lt) (hc:Hv Q c lt) (A U B:List α) (y:α) (qy:Q y) (qU:∀ u∈U,Q u) (hU:pC lt U) (hb:A.length+U.length+B.length+1<=1152921504606846976):
  ∃ W,(bx (IW c (A++U++[y]++B) (fun _=>((A.length+U.length:Nat):Int)) (fun h=>h) (fun x=> !decide (x<0))) (((A.length:Nat):Int),((A.length+U.length:Nat):Int))).bind (bX fun s=>(bx (Nt s.1) ((A++U++[y]++B),((A.length+U.length:Nat):Int))).bind (bX fun s=>some ((),s.1)))=some ((),A++W++B)/\pC lt W/\SP lt (U++[y]) W:=by
 let q:Nat->Bool:=fun h=>match U[h - A.length]? with
  |some u=> !lt y u
  |_=>true
 have hx:∀ h,A.length<=h->h<A.length+U.length->∃ u,U[h - A.length]?=some u/\q h= !lt y u:=by
  intro h g1 g2
  have a2:h - A.length<U.length:=by omega
  refine⟨_,OJ a2, ?_⟩
  simp only[q,OJ a2]
 obtain⟨r,r1,r2,r3,r4,r5⟩:=GM (R:=Unit×List α) (c:=c) (L:=A++U++[y]++B) (I:=fun _=>((A.length+U.length:Nat):Int)) (J:=fun h=>h) (T:=fun x=> !decide (x<0)) q A.length (A.length+U.length) oM (by
  intro h g1 g2
  obtain⟨v,e2,e3⟩:=hx h g1 g2
  have b1:=KM A U [y] B 0 oS
  have b2:=KL A U [y] B (h - A.length) oM
  rw[e2] at b2
  obtain⟨z,z1,z2⟩:=Cj hc qy (qU v (OE e2)) b1 b2
  refine⟨z,fun{R} k=> ?_,by rw[e3,<-z2]⟩
  rw[show(h:Int)=((A.length+(h - A.length):Nat):Int) by omega]
  exact z1 k) U.length A.length (A.length+U.length) oM (OH _) oM (OH _) (.inl rfl) (.inl rfl)
 have p1:∀ v∈U.take (r - A.length),lt y v=false:=wb hU (P:=fun w=>lt y w=false) O (fun w w' h g=>O.tr w' w y h g) (by
  rcases PW r1 with r1|r1
  ·rcases r4 with r4|r4
   ·exact .inl oM
   ·obtain⟨v,e2,e3⟩:=hx (r - 1) oM oM
    exact .inr ⟨v,by rw[show r - A.length - 1=r - 1 - A.length by omega];exact e2,by rw[e3] at r4;simpa using r4⟩
  ·exact .inl oM)
 have p2:∀ v∈U.drop (r - A.length),lt y v=true:=yX hU (P:=fun w=>lt y w=true) (fun w w' h g=>O.lt_right h g) (by
  rcases PW r2 with r2|r2
  ·rcases r5 with r5|r5
   ·exact .inl oM
   ·obtain⟨v,e2,e3⟩:=hx r oM oM
    exact .inr ⟨v,e2,by rw[e3] at r5;simpa using r5⟩
  ·exact .inl oM)
 have hk:(U.take (r - A.length)).length=r - A.length:=by rw[OT];omega
 have e:=OU (r - A.length) U
 generalize U.take (r - A.length)=U1 at *
 generalize U.drop (r - A.length)=U2 at *
 subst e
 have hs:=lf.1 hU
 refine⟨U1++y::U2, ?_, ?_, ?_⟩
 ·rw[r3]
  simp only[OA,bX]
  have:=KI y (A++U1) U2.length U2 B (OH _) (by simp only[OD] at hb⊢;omega)
  rw[show A++(U1++U2)++[y]++B=A++U1++U2++y::B by simp,show A.length+(U1++U2).length=(A++U1).length+U2.length by simp;omega,show r=(A++U1).length by rw[OD];omega,this]
  simp[bX]
 ·exact lf.2 ⟨hs.1,P4.2 ⟨fun v hv=>O.asym _ _ (p2 v hv),hs.2.1⟩,fun a ha b hb=>by
   rcases ON.1 hb with rfl|hb
   ·exact p1 a ha
   ·exact hs.2.2 a ha b hb⟩
 ·rw[OK]
  exact(SP.refl lt U1).app (SP.swap O (fun u hu v hv=>by rw[OP.1 hv];exact p2 u hu))
theorem L0 {Q:α->Prop} {c:α->α->Option Int} {lt:α->α->Bool} (O:rv lt) (hc:Hv Q c lt):∀ fu,FK Q lt (2^fu) (IG c fu):=by
 intro fu
 induction fu with
 |zero=>
  intro A U V B hU hV _ _ _ _ hn _
  have:=P8.2 hU
  have:=P8.2 hV
  simp at hn;omega
 |succ fu ih=>
  intro A U V B hU hV qU qV sU sV hn hb
  have lU:=P8.2 hU
  have lV:=P8.2 hV
  rw[Nat.pow_succ] at hn
  have w1:IntKind.i64.wrap (((A.length+U.length:Nat):Int) - ((A.length:Nat):Int))=((U.length:Nat):Int):=by rw[bn _ oM oM];omega
  have w2:IntKind.i64.wrap (((A.length+U.length+V.length:Nat):Int) - ((A.length+U.length:Nat):Int))=((V.length:Nat):Int):=by rw[bn _ oM oM];omega
  show∃ W,Nh c (IG c fu) _ _ _ _=_/\_
  unfold Nh
  rw[w1,w2]
  rcases O2 1 U.length with h1|h1
  ·have d1:decide (((U.length:Nat):Int)=1)=false:=by simp;omega
   rw[d1]
   rcases O2 1 V.length with h2|h2
   ·have d2:decide (((V.length:Nat):Int)=1)=false:=by simp;omega
    rw[d2]
    have wm:pZ ((A.length:Nat):Int) ((A.length+U.length+V.length:Nat):Int)=(((A.length+(A.length+U.length+V.length))/2:Nat):Int):=AN _ _ oM
    show∃ W,(bif decide _ then _ else _)=_/\_
    by_cases hm:(A.length+(A.length+U.length+V.length))/2<A.length+U.length
    ·have d3:decide (pZ ((A.length:Nat):Int) ((A.length+U.length+V.length:Nat):Int)<((A.length+U.length:Nat):Int))=true:=by rw[wm];simp only[OC];omega
     rw[d3]
     dsimp only[cond_true]
     have w3:IntKind.i64.wrap (IntKind.i64.wrap (pZ ((A.length:Nat):Int) ((A.length+U.length+V.length:Nat):Int)+((A.length+U.length:Nat):Int)) - ((A.length+U.length+V.length:Nat):Int))=(((A.length+(A.length+U.length+V.length))/2+(A.length+U.length) - (A.length+U.length+V.length):Nat):Int):=by
      rw[wm,bn ((((A.length+(A.length+U.length+V.length))/2:Nat):Int)+((A.length+U.length:Nat):Int)) oM oM,bn _ oM oM];omega
     have:=KO O hc ih A U V B qU qV sU sV hb oM ((A.length+(A.length+U.length+V.length))/2+(A.length+U.length) - (A.length+U.length+V.length)) ((A.length+(A.length+U.length+V.length))/2) ((A.length+(A.length+U.length+V.length))/2) rfl oM oM oM oM oM (.inr oM) (.inr rfl)
     rw[w3]
     rw[<-wm] at this
     exact this
    ·have d3:decide (pZ ((A.length:Nat):Int) ((A.length+U.length+V.length:Nat):Int)<((A.length+U.length:Nat):Int))=false:=by rw[wm];simp only[Pb];omega
     rw[d3]
     dsimp only[cond_false]
     exact KO O hc ih A U V B qU qV sU sV hb oM A.length (A.length+U.length) ((A.length+(A.length+U.length+V.length))/2) rfl oM oM oM oM oM (.inl rfl) (.inl rfl)
   ·have hv:V.length=1:=by omega
    have d2:decide (((V.length:Nat):Int)=1)=true:=by rw[hv];rfl
    rw[d2]
    dsimp only[cond_true,cond_false]
    match V,hv with
    |[y],_=>exact LZ O hc A U B y (qV y oS) qU sU (by simp at hb;omega)
  ·have hu:U.length=1:=by omega
   have d1:decide (((U.length:Nat):Int)=1)=true:=by rw[hu];rfl
   rw[d1]
   dsimp only[cond_true]
   match U,hu with
   |[x],_=>exact LY O hc A V B x (qU x oS) qV sV (by simp at hb;omega)
end
end Go.Proofs.YteaolfcegaidpaaGreatDoor
