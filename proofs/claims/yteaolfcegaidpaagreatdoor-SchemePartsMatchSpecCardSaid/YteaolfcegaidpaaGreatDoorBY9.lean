/-
  Laws on the way to the theorem.
-/
import Derived.Test.YteaolfcegaidpaaGreatDoorBY8
namespace Go.Proofs.YteaolfcegaidpaaGreatDoor
open Go.RowKit
set_option linter.unusedSimpArgs false
set_option linter.unusedVariables false
section
variable {α:Type}
inductive AF (lt:α->α->Bool) (bs:Nat):List α->Prop
 |last {U:List α}:U.length<=bs->pC lt U->AF lt bs U
 |cons {U L:List α}:U.length=bs->pC lt U->AF lt bs L->AF lt bs (U++L)
theorem AF.split {lt:α->α->Bool} {bs:Nat} {T:List α} (h:AF lt bs T) (hl:bs<=T.length):∃ U L,T=U++L/\U.length=bs/\pC lt U/\AF lt bs L:=by
 cases h with
 |last h1 h2=>exact⟨T,[],by simp,by omega,h2,.last oS List.Pairwise.nil⟩
 |cons h1 h2 h3=>exact⟨_,_,rfl,h1,h2,h3⟩
theorem AF.one {lt:α->α->Bool} {bs:Nat} {T:List α} (h:AF lt bs T) (hl:T.length<=bs):pC lt T:=by
 cases h with
 |last h1 h2=>exact h2
 | @cons U L h1 h2 h3=>
  rw[OD] at hl
  have:L=[]:=OX.1 oM
  rw[this,OY];exact h2
noncomputable def L1 (c:α->α->Option Int) (n:Int):List α×Int×Int->Option ((List α×Int×Int)⊕((List α×Int×Int)⊕(Unit×List α))):=fun s=>
 bif decide (s.2.2<=n) then(ID c s.1 s.2.1 s.2.2).bind fun y=>some (.inl (y.2,s.2.2,IntKind.i64.wrap (s.2.2+20))) else cS (some (.inl (s.1,s.2.1,s.2.2)))
noncomputable def L2 (c:α->α->Option Int) (fu:Nat) (n bs:Int):List α×Int×Int->Option ((List α×Int×Int)⊕((List α×Int×Int)⊕((List α×Int)⊕((List α×Int)⊕(Unit×List α))))):=fun t=>
 bif decide (t.2.2<=n) then(IG c fu t.1 t.2.1 (IntKind.i64.wrap (t.2.1+bs)) t.2.2).bind fun y=>some (.inl (y.2,t.2.2,IntKind.i64.wrap (t.2.2+IntKind.i64.wrap (2 * bs)))) else cS (some (.inl (t.1,t.2.1,t.2.2)))
noncomputable def Ni (c:α->α->Option Int) (fu:Nat) (n bs:Int):List α×Int×Int->Option ((List α×Int)⊕((List α×Int)⊕(Unit×List α))):=fun t=>
 bif decide (IntKind.i64.wrap (t.2.1+bs)<n) then(IG c fu t.1 t.2.1 (IntKind.i64.wrap (t.2.1+bs)) n).bind fun y=>some (.inl (y.2,IntKind.i64.wrap (bs * 2))) else some (.inl (t.1,IntKind.i64.wrap (bs * 2)))
noncomputable def IJ (c:α->α->Option Int) (fu:Nat) (n:Int):List α×Int->Option ((List α×Int)⊕((List α×Int)⊕(Unit×List α))):=fun s=>
 bif decide (s.2<n) then(bx (L2 c fu n s.2) (s.1,0,IntKind.i64.wrap (2 * s.2))).bind (bX (Ni c fu n s.2)) else cS (some (.inl (s.1,s.2)))
noncomputable def N1 (c:α->α->Option Int) (fu:Nat) (L:List α) (n:Int):Option (Unit×List α):=
 (bx (L1 c n) (L,0,20)).bind (bX fun s=>(ID c s.1 s.2.1 n).bind fun y=>(bx (IJ c fu n) (y.2,20)).bind (bX fun s=>some ((),s.1)))
theorem IK {Q:α->Prop} {c:α->α->Option Int} {lt:α->α->Bool} (O:rv lt) (hc:Hv Q c lt) (K:List α->Option (Unit×List α)):∀ (k:Nat) (D T:List α) (n:Nat),(∀ x∈T,Q x)->T.length<=k->n=D.length+T.length->n<=137438953472->
  ∃ T',(bx (L1 c (n:Int)) (D++T,((D.length:Nat):Int),((D.length+20:Nat):Int))).bind (bX fun s=>(ID c s.1 s.2.1 (n:Int)).bind fun y=>K y.2)=K (D++T')/\AF lt 20 T'/\SP lt T T':=by
 intro k
 induction k using Nat.strongRecOn with
 |ind k ih=>
  intro D T n hQ hk hn hb
  rcases O2 T.length 20 with h|h
  ·have hd:decide (((D.length+20:Nat):Int)<=(n:Int))=false:=by simp;omega
   obtain⟨W,w1,w2,w3⟩:=Hw O hc D T [] hQ ((D.length:Nat):Int) (n:Int) rfl oM oM
   refine⟨W, ?_,.last (by rw[<-w3.1.length_eq];omega) w2,w3⟩
   rw[e_ (a:= .inl (D++T,((D.length:Nat):Int),((D.length+20:Nat):Int)))]
   ·simp only[OY] at w1
    simp only[OA,bX,w1]
   ·unfold L1
    dsimp only
    rw[hd];rfl
  ·have hd:decide (((D.length+20:Nat):Int)<=(n:Int))=true:=by simp;omega
   have e:=OU 20 T
   have l1:(T.take 20).length=20:=by rw[OT];omega
   have l2:(T.drop 20).length=T.length - 20:=Pq
   generalize T.take 20=U at e l1
   generalize T.drop 20=T2 at e l2
   subst e
   obtain⟨W,w1,w2,w3⟩:=Hw O hc D U T2 (fun x hx=>hQ x (P6 _ hx)) ((D.length:Nat):Int) ((D.length+20:Nat):Int) rfl (by rw[l1]) oM
   have lW:W.length=20:=by rw[<-w3.1.length_eq,l1]
   obtain⟨T',t1,t2,t3⟩:=ih (k - 20) oM (D++W) T2 n (fun x hx=>hQ x (List.mem_append_right _ hx)) oM (by rw[OD] at hn⊢;omega) hb
   refine⟨W++T', ?_,.cons lW w2 t2,w3.app t3⟩
   rw[jN (s':=(D++W++T2,(((D++W).length:Nat):Int),(((D++W).length+20:Nat):Int)))]
   ·rw[t1,OK]
   ·unfold L1
    dsimp only
    rw[hd,<-OK,w1,bn _ oM oM,OD,lW]
    rfl
theorem IL {Q:α->Prop} {c:α->α->Option Int} {lt:α->α->Bool} (O:rv lt) (hc:Hv Q c lt) {fu:Nat} (hfu:137438953472<=2^fu) (bs:Nat) (hbs:0<bs):∀ (k:Nat) (D T:List α) (n:Nat),(∀ x∈T,Q x)->T.length<=k->n=D.length+T.length->n<=137438953472->bs<=137438953472->AF lt bs T->
  ∃ T',(bx (L2 c fu (n:Int) (bs:Int)) (D++T,((D.length:Nat):Int),((D.length+2 * bs:Nat):Int))).bind (bX (Ni c fu (n:Int) (bs:Int)))=some (.inl (D++T',((2 * bs:Nat):Int)))/\AF lt (2 * bs) T'/\SP lt T T':=by
 intro k
 induction k using Nat.strongRecOn with
 |ind k ih=>
  intro D T n hQ hk hn hb hb2 hT
  have hR:=L0 O hc fu
  have w5:IntKind.i64.wrap ((bs:Int) * 2)=((2 * bs:Nat):Int):=by rw[bn _ oM oM];omega
  have w6:IntKind.i64.wrap (2 * (bs:Int))=((2 * bs:Nat):Int):=by rw[bn _ oM oM];omega
  have w7:IntKind.i64.wrap (((D.length:Nat):Int)+(bs:Int))=((D.length+bs:Nat):Int):=by rw[bn _ oM oM];omega
  rcases O2 T.length (2 * bs) with h|h
  ·have hd:decide (((D.length+2 * bs:Nat):Int)<=(n:Int))=false:=by simp only[Pb];omega
   rw[e_ (a:= .inl (D++T,((D.length:Nat):Int),((D.length+2 * bs:Nat):Int)))]
   ·simp only[OA,bX]
    unfold Ni
    dsimp only
    rw[w5,w7]
    rcases O2 bs T.length with h2|h2
    ·have hd2:decide (((D.length+bs:Nat):Int)<(n:Int))=true:=by simp only[OC];omega
     obtain⟨U,L,rfl,l1,s1,b1⟩:=hT.split oM
     rw[OD] at h h2 hn
     obtain⟨W,g1,g2,g3⟩:=hR D U L [] (by intro h0;rw[h0] at l1;simp at l1;omega) (by intro h0;rw[h0] at h2;simp at h2;omega) (fun x hx=>hQ x (P6 _ hx)) (fun x hx=>hQ x (List.mem_append_right _ hx)) s1 (b1.one oM) oM oT
     refine⟨W, ?_,.last (by rw[<-g3.1.length_eq,OD];omega) g2,g3⟩
     rw[hd2,show n=D.length+U.length+L.length by omega,<-l1]
     simp only[OY] at g1
     rw[<-OK,g1]
     rfl
    ·have hd2:decide (((D.length+bs:Nat):Int)<(n:Int))=false:=by simp only[Pb];omega
     refine⟨T, ?_,.last oM (hT.one h2),SP.refl _ _⟩
     rw[hd2];rfl
   ·unfold L2
    dsimp only
    rw[hd];rfl
  ·have hd:decide (((D.length+2 * bs:Nat):Int)<=(n:Int))=true:=by simp only[OC];omega
   obtain⟨U,L,rfl,l1,s1,b1⟩:=hT.split oM
   rw[OD] at h hn hk
   obtain⟨V,L,rfl,l2,s2,b2⟩:=b1.split oM
   rw[OD] at h hn hk
   obtain⟨W,g1,g2,g3⟩:=hR D U V L (by intro h0;rw[h0] at l1;simp at l1;omega) (by intro h0;rw[h0] at l2;simp at l2;omega) (fun x hx=>hQ x (by simp[hx])) (fun x hx=>hQ x (by simp[hx])) s1 s2 oM oM
   have lW:W.length=2 * bs:=by rw[<-g3.1.length_eq,OD];omega
   obtain⟨T',t1,t2,t3⟩:=ih (k - 2 * bs) oM (D++W) L n (fun x hx=>hQ x (by simp[hx])) oM (by rw[OD];omega) hb hb2 b2
   refine⟨W++T', ?_,.cons lW g2 t2, ?_⟩
   ·rw[jN (s':=(D++W++L,(((D++W).length:Nat):Int),(((D++W).length+2 * bs:Nat):Int)))]
    ·rw[t1,OK]
    ·have w8:IntKind.i64.wrap (((D.length+2 * bs:Nat):Int)+((2 * bs:Nat):Int))=((D.length+2 * bs+2 * bs:Nat):Int):=by rw[bn _ oM oM];omega
     unfold L2
     dsimp only
     rw[hd,w6,w7,w8,OD,lW]
     rw[l1,show D.length+bs+V.length=D.length+2 * bs by omega] at g1
     rw[show D++(U++(V++L))=D++U++V++L by simp,g1]
     rfl
   ·rw[<-OK]
    exact g3.app t3
theorem IM {Q:α->Prop} {c:α->α->Option Int} {lt:α->α->Bool} (O:rv lt) (hc:Hv Q c lt) {fu:Nat} (hfu:137438953472<=2^fu):∀ (k:Nat) (L:List α) (bs:Nat),(∀ x∈L,Q x)->L.length - bs<=k->0<bs->L.length<=137438953472->AF lt bs L->
  ∃ L' s,bx (IJ c fu ((L.length:Nat):Int)) (L,(bs:Int))=some (.inl (L',s))/\pC lt L'/\SP lt L L':=by
 intro k
 induction k using Nat.strongRecOn with
 |ind k ih=>
  intro L bs hQ hk h0 hb hL
  rcases O2 bs L.length with h|h
  ·have hd:decide ((bs:Int)<((L.length:Nat):Int))=true:=by simp only[OC];omega
   have w6:IntKind.i64.wrap (2 * (bs:Int))=((2 * bs:Nat):Int):=by rw[bn _ oM oM];omega
   obtain⟨T',t1,t2,t3⟩:=IL O hc hfu bs h0 L.length [] L L.length hQ (OH _) oS hb oM hL
   have lT:=t3.1.length_eq
   obtain⟨L',s,g1,g2,g3⟩:=ih (k - bs) oM T' (2 * bs) (fun x hx=>hQ x (t3.1.mem_iff.2 hx)) oM oM oM t2
   refine⟨L',s, ?_,g2,t3.trans g3⟩
   rw[jN (s':=(T',((2 * bs:Nat):Int)))]
   ·rw[lT];exact g1
   ·unfold IJ
    dsimp only
    rw[hd,w6]
    simp only[Pr,OR,Ps] at t1
    exact t1
  ·have hd:decide ((bs:Int)<((L.length:Nat):Int))=false:=by simp only[Pb];omega
   refine⟨L,bs,e_ ?_,hL.one h,SP.refl _ _⟩
   unfold IJ
   dsimp only
   rw[hd];rfl
theorem L3 {Q:α->Prop} {c:α->α->Option Int} {lt:α->α->Bool} (O:rv lt) (hc:Hv Q c lt) {fu:Nat} (hfu:137438953472<=2^fu) (L:List α) (hQ:∀ x∈L,Q x) (hb:L.length<=137438953472):
  ∃ W,N1 c fu L ((L.length:Nat):Int)=some ((),W)/\pC lt W/\SP lt L W:=by
 obtain⟨T',t1,t2,t3⟩:=IK O hc (fun M=>(bx (IJ c fu ((L.length:Nat):Int)) (M,20)).bind (bX fun s=>some ((),s.1))) L.length [] L L.length hQ (OH _) oS hb
 simp only[Pr,OR,Ps] at t1
 have lT:=t3.1.length_eq
 obtain⟨L',s,g1,g2,g3⟩:=IM O hc hfu T'.length T' 20 (fun x hx=>hQ x (t3.1.mem_iff.2 hx)) oM oM oM t2
 refine⟨L', ?_,g2,t3.trans g3⟩
 refine Eq.trans t1 ?_
 rw[<-lT] at g1
 have g1':bx (IJ c fu ((L.length:Nat):Int)) (T',20)=some (.inl (L',s)):=g1
 rw[g1'];rfl
end
theorem Nj:137438953472<=2^FU:=by
 have h:2^37<=2^FU:=Nat.pow_le_pow_right oD (PA oD J4)
 exact PA oD h
section
variable (f:FuncId) (c:List DV) (p:ac->ac->Option Int) (h:∀ a0 a1 r,p a0 a1=some r->aa Tryz.prog f ([.agg (ab a0),.agg (ab a1)]++c) (.int .i64 r))
theorem Ck (L:List ac) (x1 x2 x3:Int):cq L x1 x2 x3 f c p h=Cg L x1 x2 x3:=by
 unfold cq vL;dsimp only
 rfl
theorem CI (L:List ac) (x1 x2 x3:Int):cK L x1 x2 x3 f c p h=LW L x1 x2 x3:=by
 unfold cK vM;dsimp only
 simp only[Ck]
 rfl
theorem CJ (L:List ac) (x1 x2:Int):bS L x1 x2 f c p h=ID p L x1 x2:=by
 unfold bS vK;dsimp only
 rfl
theorem CK:∀ (fu:Nat) (L:List ac) (x1 x2 x3:Int),be fu L x1 x2 x3 f c p h=IG p fu L x1 x2 x3:=by
 intro fu
 induction fu with
 |zero=>intro L x1 x2 x3;exact gD ..
 |succ fu ih=>
  intro L x1 x2 x3
  rw[gG];unfold vN;dsimp only;simp only[gE]
  simp only[CI,ih]
  rfl
theorem CL (L:List ac) (n:Int):cL L n f c p h=N1 p FU L n:=by
 unfold cL vO;dsimp only
 simp only[CJ,CK]
 rfl
end
theorem CM {f:FuncId} {c:List DV} {p:ac->ac->Option Int} (h:∀ a0 a1 r,p a0 a1=some r->aa Tryz.prog f ([.agg (ab a0),.agg (ab a1)]++c) (.int .i64 r)) {Q:ac->Prop} {lt:ac->ac->Bool} (O:rv lt) (hc:Hv Q p lt) (L:List ac) (hQ:∀ x∈L,Q x) (hb:L.length<=137438953472):
  ∃ W,ay L f c p h=some ((),W)/\pC lt W/\SP lt L W:=by
 obtain⟨W,g1,g2⟩:=L3 O hc Nj L hQ hb
 refine⟨W, ?_,g2⟩
 unfold ay vP;dsimp only
 rw[CL,g1]
 rfl
abbrev Fl:=ac
def pG (k e r p:Int):Fl:=⟨k,0,⟨e,r,p⟩,[]⟩
def uw (l:List (List UInt8)):Bool:=l.all fun t=>decide (t=[])
def fE (d:aE) (s:List UInt8) (e r p:Int):List Fl:=
 if s=[] then(if d.fNeeded=true then[pG 8 e r p] else[])
 else(if(s.length:Int)<d.fMin then[pG 9 e r p] else[])++(if d.fMax<(s.length:Int) then[pG 10 e r p] else[])++(if rL d.fType s=true then[] else[pG 11 e r p])++(if d.fCodes=[]\/d.fCodes.contains s=true then[] else[pG 12 e r p])
def jm (d:aq) (l:List (List UInt8)) (e r:Int):List Fl:=
 (if uw l=true then[pG 8 e r 0] else dX (fun i p=>fE p (l.getD i []) e r ((i+1:Nat):Int)) 0 d.fParts)++(if d.fParts.length<l.length then[pG 7 e r ((d.fParts.length+1:Nat):Int)] else[])
def gM (d:aq) (x:List (List (List UInt8))) (e:Int):List Fl:=
 if x.all uw=true then(if d.fNeeded=true then[pG 8 e 0 0] else[])
 else dX (fun k l=>jm d l e ((k+1:Nat):Int)) 0 (x.take d.fMost.toNat)++(if d.fMost<(x.length:Int) then[pG 6 e (d.fMost+1) 0] else[])
def fF (s:aj) (i:Nat):List (List (List UInt8)):=match s.fElements[i]? with|some x=>x.fRepeats|none=>[]
def pz (d:Df) (s:aj):List Fl:=
 dX (fun i x=>gM x (fF s i) ((i+1:Nat):Int)) 0 d.fElements++(if d.fElements.length<s.fElements.length then[pG 5 ((d.fElements.length+1:Nat):Int) 0 0] else[])
def Dr (a b:Fl):Bool:=decide (a.fAt.fElement<b.fAt.fElement\/(a.fAt.fElement=b.fAt.fElement/\(a.fAt.fRepeat<b.fAt.fRepeat\/(a.fAt.fRepeat=b.fAt.fRepeat/\(a.fAt.fPart<b.fAt.fPart\/(a.fAt.fPart=b.fAt.fPart/\a.fKind<b.fKind))))))
def R0 (a b:Fl):Prop:=Dr b a=false
theorem yT {α β:Type} {R:β->β->Prop} (B:Nat->β->Prop) (g:Nat->α->List β):∀ (l:List α) (i:Nat),(∀ j x b,x∈l->b∈g j x->B j b)->(∀ j k a b,j<k->B j a->B k b->R a b)->(∀ j x,x∈l->(g j x).Pairwise R)->
  (dX g i l).Pairwise R/\∀ b∈dX g i l,∃ j,i<=j/\j<i+l.length/\B j b
 |[],i,_,_,_=>⟨.nil,fun b h=>by simp[dX] at h⟩
 |x::l,i,h1,h2,h3=>by
  obtain⟨k1,k2⟩:=yT B g l (i+1) (fun j x b hx=>h1 j x b (Pk _ hx)) h2 (fun j x hx=>h3 j x (Pk _ hx))
  have h0:=h3 i x (O9 ..)
  have hx:=h1 i x
  simp only[dX]
  refine⟨Qg.2 ⟨h0,k1,fun a ha b hb=> ?_⟩,fun b hb=> ?_⟩
  ·obtain⟨j,q1, -,q3⟩:=k2 b hb
   exact h2 i j a b oM (hx a (O9 ..) ha) q3
  ·rcases OV.1 hb with hb|hb
   ·exact⟨i,OH _,by simp only[OW];omega,hx b (O9 ..) hb⟩
   ·obtain⟨j,q1,q2,q3⟩:=k2 b hb
    exact⟨j,by omega,by simp only[OW];omega,q3⟩
theorem Ds {d:aE} {s:List UInt8} {e r p:Int} {b:Fl} (h:b∈fE d s e r p):b.fAt=⟨e,r,p⟩/\1<=b.fKind/\b.fKind<=12:=by
 have key:∀ k:Int,1<=k->k<=12->b=pG k e r p->b.fAt=⟨e,r,p⟩/\1<=b.fKind/\b.fKind<=12:=fun k h1 h2 hb=>by rw[hb];exact⟨rfl,h1,h2⟩
 unfold fE at h
 split at h
 ·split at h
  ·exact key 8 oM oM (OP.1 h)
  ·cases h
 ·simp only[OV] at h
  rcases h with((h|h)|h)|h
  ·split at h
   ·exact key 9 oM oM (OP.1 h)
   ·cases h
  ·split at h
   ·exact key 10 oM oM (OP.1 h)
   ·cases h
  ·split at h
   ·cases h
   ·exact key 11 oM oM (OP.1 h)
  ·split at h
   ·cases h
   ·exact key 12 oM oM (OP.1 h)
theorem Io (d:aE) (s:List UInt8) (e r p:Int):(fE d s e r p).Pairwise R0:=by
 unfold fE
 repeat' split
 all_goals simp[R0,Dr,pG]
theorem B9 {d:aq} {l:List (List UInt8)} {e r:Int} {b:Fl} (h:b∈jm d l e r):b.fAt.fElement=e/\b.fAt.fRepeat=r/\1<=b.fKind/\b.fKind<=12/\0<=b.fAt.fPart/\b.fAt.fPart<=((d.fParts.length+1:Nat):Int):=by
 unfold jm at h
 rcases OV.1 h with h|h
 ·split at h
  ·rw[OP.1 h];refine⟨rfl,rfl, ?_, ?_, ?_, ?_⟩<;>simp only[pG]<;>omega
  ·obtain⟨k,x,h1,h2⟩:=wu h
   have hk:=bI h1
   obtain⟨q1,q2,q3⟩:=Ds h2
   rw[q1];refine⟨rfl,rfl,q2,q3, ?_, ?_⟩<;>simp only<;>omega
 ·split at h
  ·rw[OP.1 h];refine⟨rfl,rfl, ?_, ?_, ?_, ?_⟩<;>simp only[pG]<;>omega
  ·cases h
theorem Kb (d:aq) (l:List (List UInt8)) (e r:Int):(jm d l e r).Pairwise R0:=by
 unfold jm
 have hB:∀ j k (a b:Fl),j<k->(a.fAt=⟨e,r,((j+1:Nat):Int)⟩)->(b.fAt=⟨e,r,((k+1:Nat):Int)⟩)->R0 a b:=fun j k a b hjk ha hb=>by
  unfold R0 Dr;rw[ha,hb];simp only[Pb];omega
 have key:=yT (R:=R0) (fun j b=>b.fAt=⟨e,r,((j+1:Nat):Int)⟩) (fun i p=>fE p (l.getD i []) e r ((i+1:Nat):Int)) d.fParts 0 (fun j x b _ hb=>(Ds hb).1) hB (fun j x _=>Io _ _ _ _ _)
 refine Qg.2 ⟨?_, ?_,fun a ha b hb=> ?_⟩
 ·split
  ·exact PZ _ _
  ·exact key.1
 ·split
  ·exact PZ _ _
  ·exact .nil
 ·split at hb
  ·rw[OP.1 hb]
   split at ha
   ·rw[OP.1 ha];unfold R0 Dr pG;simp only[Pb];omega
   ·obtain⟨j,q1,q2,q3⟩:=key.2 a ha
    unfold R0 Dr pG;rw[q3];simp only[Pb];omega
  ·cases hb
theorem Dt {d:aq} {x:List (List (List UInt8))} {e:Int} {b:Fl} (h0:1<=d.fMost) (h:b∈gM d x e):b.fAt.fElement=e/\1<=b.fKind/\b.fKind<=12/\0<=b.fAt.fRepeat/\b.fAt.fRepeat<=d.fMost+1/\0<=b.fAt.fPart/\b.fAt.fPart<=((d.fParts.length+1:Nat):Int):=by
 unfold gM at h
 split at h
 ·split at h
  ·rw[OP.1 h];refine⟨rfl, ?_, ?_, ?_, ?_, ?_, ?_⟩<;>simp only[pG]<;>omega
  ·cases h
 ·rcases OV.1 h with h|h
  ·obtain⟨k,y,h1,h2⟩:=wu h
   have hk:=bI h1
   rw[OT] at hk
   obtain⟨q1,q2,q3,q4,q5,q6⟩:=B9 h2
   refine⟨q1,q3,q4, ?_, ?_,q5,q6⟩<;>rw[q2]<;>omega
  ·split at h
   ·rw[OP.1 h];refine⟨rfl, ?_, ?_, ?_, ?_, ?_, ?_⟩<;>simp only[pG]<;>omega
   ·cases h
theorem Ip (d:aq) (x:List (List (List UInt8))) (e:Int):(gM d x e).Pairwise R0:=by
 unfold gM
 split
 ·split
  ·exact PZ _ _
  ·exact .nil
 have hB:∀ j k (a b:Fl),j<k->(a.fAt.fElement=e/\a.fAt.fRepeat=((j+1:Nat):Int))->(b.fAt.fElement=e/\b.fAt.fRepeat=((k+1:Nat):Int))->R0 a b:=fun j k a b hjk ha hb=>by
  unfold R0 Dr;rw[ha.1,ha.2,hb.1,hb.2];simp only[Pb];omega
 have key:=yT (R:=R0) (fun j b=>b.fAt.fElement=e/\b.fAt.fRepeat=((j+1:Nat):Int)) (fun k l=>jm d l e ((k+1:Nat):Int)) (x.take d.fMost.toNat) 0 (fun j x b _ hb=>⟨(B9 hb).1,(B9 hb).2.1⟩) hB (fun j x _=>Kb _ _ _ _)
 refine Qg.2 ⟨key.1, ?_,fun a ha b hb=> ?_⟩
 ·split
  ·exact PZ _ _
  ·exact .nil
 ·split at hb
  ·rw[OP.1 hb]
   obtain⟨j,q1,q2,q3⟩:=key.2 a ha
   rw[OT] at q2
   unfold R0 Dr pG;rw[q3.1,q3.2];simp only[Pb];omega
  ·cases hb
theorem Kc {d:Df} {s:aj} {b:Fl} (h0:∀ e∈d.fElements,1<=e.fMost) (h:b∈pz d s):1<=b.fAt.fElement/\b.fAt.fElement<=((d.fElements.length+1:Nat):Int)/\1<=b.fKind/\b.fKind<=12/\0<=b.fAt.fRepeat/\0<=b.fAt.fPart/\(b.fAt.fRepeat=0/\b.fAt.fPart=0\/∃ e∈d.fElements,b.fAt.fRepeat<=e.fMost+1/\b.fAt.fPart<=((e.fParts.length+1:Nat):Int)):=by
 unfold pz at h
 rcases OV.1 h with h|h
 ·obtain⟨k,x,h1,h2⟩:=wu h
  have hk:=bI h1
  have hx:=OE h1
  obtain⟨q1,q2,q3,q4,q5,q6,q7⟩:=Dt (h0 x hx) h2
  exact⟨by omega,by omega,q2,q3,q4,q6,.inr ⟨x,hx,q5,q7⟩⟩
 ·split at h
  ·rw[OP.1 h]
   refine⟨?_, ?_, ?_, ?_, ?_, ?_,.inl ⟨rfl,rfl⟩⟩<;>simp only[pG]<;>omega
  ·cases h
theorem Kd {d:Df} (s:aj) (h0:∀ e∈d.fElements,1<=e.fMost):(pz d s).Pairwise R0:=by
 unfold pz
 have hB:∀ j k (a b:Fl),j<k->(a.fAt.fElement=((j+1:Nat):Int))->(b.fAt.fElement=((k+1:Nat):Int))->R0 a b:=fun j k a b hjk ha hb=>by
  unfold R0 Dr;rw[ha,hb];simp only[Pb];omega
 have key:=yT (R:=R0) (fun j b=>b.fAt.fElement=((j+1:Nat):Int)) (fun i x=>gM x (fF s i) ((i+1:Nat):Int)) d.fElements 0 (fun j x b hx hb=>(Dt (h0 x hx) hb).1) hB (fun j x _=>Ip _ _ _)
 refine Qg.2 ⟨key.1, ?_,fun a ha b hb=> ?_⟩
 ·split
  ·exact PZ _ _
  ·exact .nil
 ·split at hb
  ·rw[OP.1 hb]
   obtain⟨j,q1,q2,q3⟩:=key.2 a ha
   unfold R0 Dr pG;rw[q3];simp only[Pb];omega
  ·cases hb
theorem NI:rv Dr where
 asym a b h:=by
  simp only[Dr,OC,Pb] at *
  omega
 tr a b c h1 h2:=by
  simp only[Dr,Pb] at *
  omega
theorem LA {X Y:List Fl} (hx:X.Pairwise R0) (hs:pC Dr Y) (hp:SP Dr X Y):Y=X:=(GK NI hx hs hp).symm
theorem Eo {α β:Type} {a:List α} {b:List β}:decide ((a.length:Int)<(b.length:Int))=decide (a.length<b.length):=by congr 1;apply propext;omega
theorem Ke {A R:Type} {m:Option A} {k:A->Option R} {a:A} {r:Option R} (h:m=some a) (hk:k a=r):m.bind k=r:=by rw[h];exact hk
structure Og (p:aE):Prop where
 type:1<=p.fType/\p.fType<=5
 codes:p.fCodes.length<=1000
structure MZ (e:aq):Prop where
 most:1<=e.fMost/\e.fMost<=20
 many:e.fParts.length<=20
 parts:∀ p∈e.fParts,Og p
structure Nq (d:Df):Prop where
 many:d.fElements.length<=50
 elems:∀ e∈d.fElements,MZ e
theorem GF {d:Df} (h:FC d=0):Nq d:=by
 unfold FC at h
 split at h
 ·cases h
 refine⟨by omega,fun e he=> ?_⟩
 obtain⟨_,he0⟩:=yV h e he
 unfold Am at he0
 split at he0
 ·cases he0
 split at he0
 ·cases he0
 split at he0
 ·cases he0
 refine⟨by omega,by omega,fun p hp=> ?_⟩
 obtain⟨_,hp0⟩:=yV he0 p hp
 unfold wV at hp0
 split at hp0
 ·cases hp0
 split at hp0
 ·cases hp0
 split at hp0
 ·cases hp0
 split at hp0
 ·cases hp0
 exact⟨by omega,by omega⟩
theorem Hj {α R:Type} {c:Bool} {l:List α} {x:α} {K:List α->Option R} (h:l.length<=137438953471):((bif c then(some x).bind fun x=>jV (tu (l.length+[x].length)) (some (Sum.inl (l++[x]))) else some (Sum.inl l):Option (List α⊕R)).bind (bX K))=K (l++(if c=true then[x] else[])):=by
 cases c with
 |true=>rw[OL,OA,gL (by simp only[Ph];omega)];rfl
 |false=>simp[bX]
theorem LB {α β R:Type} {c:Bool} {x:α} {K:List α->Option R}:((bif c then(some x).bind fun x=>jV (tu (([]:List β).length+[x].length)) (some (Sum.inl [x])) else some (Sum.inl []):Option (List α⊕R)).bind (bX K))=K (if c=true then[x] else[]):=by
 cases c with
 |true=>rw[OL,OA,gL oS];rfl
 |false=>simp[bX]
theorem GG (k e r p:Int):ju k e r p=some (pG k e r p):=by
 unfold ju ld;dsimp only
 rfl
theorem Hk (l:List (List UInt8)) (hl:l.length<=1000):fB l=some (uw l):=by
 unfold fB ld;dsimp only
 refine Eq.trans (nh l (fun t=>decide (t=[])) false (fun i e he=> ?_) ?_) ?_
 ·have hi:=bI he
  simp only[bH hi,OL,av,he,OA,cG i oM]
  by_cases hq:e=[]
  ·simp[hq]
  ·simp[hq,Ik]
 ·simp only[ar,OO];rfl
 ·show(if uw l=true then some true else some false)=some (uw l)
  cases uw l<;>rfl
theorem Ep {α:Type} (c:Prop) [Decidable c] (x:α):(if c then[x] else[]).length<=1:=by split<;>simp
theorem Kf (d:aE) (hd:Og d) {s:List UInt8} (h0:s≠[]) (hs:s.length<=1000) (ht:s.all (pD 32 126)=true) (e r p:Int):f_ d s e r p=some (fE d s e r p):=by
 unfold f_ tK;dsimp only
 have hty:(if d.fType=1 then s.all (pD 32 126) else rL d.fType s)=rL d.fType s:=by
  split
  ·rename_i h1;rw[ht,h1];rfl
  ·rfl
 rw[Kr s d.fType hs,hty]
 simp only[GG]
 have b1:=Ep (decide ((s.length:Int)<d.fMin)=true) (pG 9 e r p)
 have b2:=Ep (decide (d.fMax<(s.length:Int))=true) (pG 10 e r p)
 have b3:=Ep ((!rL d.fType s)=true) (pG 11 e r p)
 rw[LB,Hj oM,OA,Hj (by rw[OD];omega)]
 have hc:=dS (R:=List Fl) (k:=bX fun s_1:List Fl×Bool×Int=>bif !s_1.snd.fst then(some (pG 12 e r p)).bind fun x=>jV (tu (s_1.fst.length+[x].length)) (some (s_1.fst++[x])) else some s_1.fst)
  (py d.fCodes (f:=fun s_1:List Fl×Bool×Int=>bif decide (s_1.snd.snd<(d.fCodes.length:Int)) then(Dl s_1.snd.fst ((dg d.fCodes s_1.snd.snd).bind fun e=>some (decide (e=s)))).bind fun v=>some (Sum.inl (s_1.fst,v,IntKind.i64.wrap (s_1.snd.snd+1))) else cS (some (Sum.inl (s_1.fst,s_1.snd.fst,s_1.snd.snd))))
   (fun i pre=>(((if decide ((s.length:Int)<d.fMin)=true then[pG 9 e r p] else[])++(if decide (d.fMax<(s.length:Int))=true then[pG 10 e r p] else[])++if(!rL d.fType s)=true then[pG 11 e r p] else[]),decide ((d.fCodes.length:Int)=0)||pre.contains s,(i:Int)))
   (a:=(Sum.inl (((if decide ((s.length:Int)<d.fMin)=true then[pG 9 e r p] else[])++(if decide (d.fMax<(s.length:Int))=true then[pG 10 e r p] else[])++if(!rL d.fType s)=true then[pG 11 e r p] else[]),decide ((d.fCodes.length:Int)=0)||d.fCodes.contains s,(d.fCodes.length:Int)):(List Fl×Bool×Int)⊕List Fl)) (fun i c hcd=> ?_) ?_) rfl
 ·rw[show(((0:Nat):Int))=0 from rfl] at hc
  simp only[List.contains_nil,Bool.or_false] at hc
  rw[hc]
  simp only[bX,OA]
  unfold fE
  rw[P7 h0,Ko]
  have h11:(if(!rL d.fType s)=true then[pG 11 e r p] else[])=(if rL d.fType s=true then[] else[pG 11 e r p]):=by cases rL d.fType s<;>rfl
  rw[h11] at b3⊢
  by_cases hk:d.fCodes=[]\/d.fCodes.contains s=true
  ·rw[Qa hk]
   have:(!(decide (d.fCodes=[])||d.fCodes.contains s))=false:=by
    rcases hk with hk|hk
    ·rw[PG hk];rfl
    ·rw[hk,Bool.or_true];rfl
   rw[this]
   simp
  ·rw[P7 hk]
   have:(!(decide (d.fCodes=[])||d.fCodes.contains s))=true:=by
    rw[Ql fun h=>hk (.inl h),PN.2 fun h=>hk (.inr h)];rfl
   rw[this,OL,gL (by simp only[OD,Ph];omega)]
   simp
 ·have hi:=bI hcd
  have hcl:=hd.codes
  simp only[bH hi,OL,av,hcd,OA,cX,cG i oM]
  congr 4
  rw[Bool.or_assoc]
  congr 1
  rw[O1]
  simp only[O3,List.contains_iff_mem,OV,OP,OC]
  constructor
  ·rintro(h|h)
   ·exact .inl h
   ·exact .inr h.symm
  ·rintro(h|h)
   ·exact .inl h
   ·exact .inr h.symm
 ·simp only[ar,OO];rfl
def N8 (s:aj):Prop:=s.fElements.length<=50/\∀ e∈s.fElements,e.fRepeats.length<=20/\∀ l∈e.fRepeats,l.length<=20/\∀ t∈l,t.length<=1000/\t.all (pD 32 126)=true
theorem M1 {l:List (List UInt8)} {i:Nat} {R:Type} {K:List UInt8->Option R}:((bif decide ((i:Int)<(l.length:Int)) then(dg l (i:Int)).bind fun e=>some (Sum.inl e) else some (Sum.inl []):Option (List UInt8⊕R)).bind (bX K))=K (l.getD i []):=by
 rw[List.getD_eq_getElem?_getD]
 cases h:l[i]? with
 |none=>
  rw[PE] at h
  rw[Ql oM];rfl
 |some e=>
  rw[bH (bI h),av,h];rfl
theorem LC {l:List (List UInt8)} {i:Nat} {R:Type} {K:List UInt8->Option R}:((bif decide ((i:Int)<(l.length:Int)) then l[i]?.bind fun e=>some (Sum.inl e) else some (Sum.inl []):Option (List UInt8⊕R)).bind (bX K))=K (l.getD i []):=by
 rw[<-av];exact M1
theorem oW (d:aE) (s:List UInt8) (e r p:Int):(fE d s e r p).length<=4:=by
 unfold fE
 repeat' split
 all_goals simp
theorem Hl {l:List (List UInt8)} (h:∀ t∈l,t.length<=1000/\t.all (pD 32 126)=true) (i:Nat):(l.getD i []).length<=1000/\(l.getD i []).all (pD 32 126)=true:=by
 rw[List.getD_eq_getElem?_getD]
 cases hi:l[i]? with
 |none=>exact⟨by simp,rfl⟩
 |some t=>exact h t (OE hi)
theorem Hm {c:Bool} {l:List Fl} {x:Fl} (h:l.length<=137438953471):(bif c then(some x).bind fun x=>jV (tu (l.length+[x].length)) (some (l++[x])) else some l)=some (l++(if c=true then[x] else[])):=by
 cases c with
 |true=>rw[OL,OA,gL (by simp only[Ph];omega)];rfl
 |false=>simp
theorem oX (d:aq) (hd:d.fParts.length<=20) (l:List (List UInt8)) (e r:Int):(jm d l e r).length<=82:=by
 have h1:=eB (b:=4) (f:=fun i p=>fE p (l.getD i []) e r ((i+1:Nat):Int)) d.fParts 0 (fun i p _=>oW _ _ _ _ _)
 have h2:=Ep (d.fParts.length<l.length) (pG 7 e r ((d.fParts.length+1:Nat):Int))
 unfold jm
 rw[OD]
 split
 ·simp only[Ph];omega
 ·omega
theorem LD (d:aq) (hd:MZ d) (l:List (List UInt8)) (hl:l.length<=20/\∀ t∈l,t.length<=1000/\t.all (pD 32 126)=true) (e r:Int):dK d l e r=some (jm d l e r):=by
 unfold dK tL;dsimp only
 have hm:=hd.many
 have hlen:=oX d hm l e r
 rw[Hk l oM,OA]
 simp only[GG]
 have hw:IntKind.i64.wrap ((d.fParts.length:Int)+1)=((d.fParts.length+1:Nat):Int):=cG _ oM
 have fin:∀ X:List Fl,X.length<=100->(bif decide ((d.fParts.length:Int)<(l.length:Int)) then(some (pG 7 e r (IntKind.i64.wrap ((d.fParts.length:Int)+1)))).bind fun x=>jV (tu (X.length+[x].length)) (some (X++[x])) else some X)=some (X++if d.fParts.length<l.length then[pG 7 e r ((d.fParts.length+1:Nat):Int)] else[]):=fun X hX=>by
  rw[Hm oM,hw,Eo]
  simp only[OC]
 cases hE:uw l with
 |true=>
  rw[OL,OA,gL oS,OA]
  simp only[bX]
  rw[fin _ oS]
  unfold jm
  rw[Qa hE]
 |false=>
  rw[OO]
  have h1:=eB (b:=4) (f:=fun i p=>fE p (l.getD i []) e r ((i+1:Nat):Int)) d.fParts 0 (fun i p _=>oW _ _ _ _ _)
  refine Ke (a:=(Sum.inl (dX (fun i p=>fE p (l.getD i []) e r ((i+1:Nat):Int)) 0 d.fParts):List Fl⊕List Fl)) (dS (py d.fParts (fun i pre=>(dX (fun i p=>fE p (l.getD i []) e r ((i+1:Nat):Int)) 0 pre,(i:Int))) (a:=(Sum.inl (dX (fun i p=>fE p (l.getD i []) e r ((i+1:Nat):Int)) 0 d.fParts,(d.fParts.length:Int)):(List Fl×Int)⊕(List Fl⊕List Fl))) (fun i p hp=> ?_) ?_) rfl) ?_
  ·have hi:=bI hp
   have hpm:=OE hp
   have htl:=sZ hp
   have h2:=eB (b:=4) (f:=fun i p=>fE p (l.getD i []) e r ((i+1:Nat):Int)) (d.fParts.take i) 0 (fun i p _=>oW _ _ _ _ _)
   obtain⟨g1,g2⟩:=Hl hl.2 i
   simp only[bH hi,OL,av,LC,hp,OA,oV,htl,cG i oM]
   by_cases h0:l.getD i []=[]
   ·rw[PG h0,h0]
    simp only[OS,OO]
    unfold fE
    rw[Qa rfl]
    by_cases hn:p.fNeeded=true
    ·rw[hn,OL,Qa rfl,gL (by simp only[Ph];unfold fE at h2;omega)]
    ·rw[P7 hn,PN.2 hn];simp
   ·rw[Ql h0]
    simp only[Po,OL]
    have hpl:=oW p (l.getD i []) e r ((i+1:Nat):Int)
    rw[Kf p (hd.parts p hpm) h0 g1 g2,OA,gL oM]
  ·simp only[ar,OO];rfl
  ·simp only[bX]
   rw[fin _ oM]
   unfold jm
   rw[P7 (show¬ uw l=true by rw[hE];simp)]
theorem ro (d:aq) (hd:MZ d) (x:List (List (List UInt8))) (e:Int):(gM d x e).length<=1641:=by
 have hm:=hd.most
 have h1:=eB (b:=82) (f:=fun k l=>jm d l e ((k+1:Nat):Int)) (x.take d.fMost.toNat) 0 (fun i l _=>oX d hd.many _ _ _)
 have h2:=Ep (d.fMost<(x.length:Int)) (pG 6 e (d.fMost+1) 0)
 have h3:(x.take d.fMost.toNat).length<=20:=by rw[OT];omega
 unfold gM
 split
 ·split<;>simp
 ·rw[OD]
  omega
theorem Du (d:Df) (hd:Nq d) (s:aj):(pz d s).length<=82051:=by
 have hm:=hd.many
 have h1:=eB (b:=1641) (f:=fun i x=>gM x (fF s i) ((i+1:Nat):Int)) d.fElements 0 (fun i x hx=>ro x (hd.elems x hx) _ _)
 have h2:=Ep (d.fElements.length<s.fElements.length) (pG 5 ((d.fElements.length+1:Nat):Int) 0 0)
 unfold pz
 rw[OD]
 omega
theorem Dv {s:aj} (h:N8 s) (i:Nat):(fF s i).length<=20/\∀ l∈fF s i,l.length<=20/\∀ t∈l,t.length<=1000/\t.all (pD 32 126)=true:=by
 unfold fF
 cases hi:s.fElements[i]? with
 |none=>exact⟨by simp,fun l hl=>by cases hl⟩
 |some e=>exact h.2 e (OE hi)
theorem Kg {s:aj} {i:Nat} {R:Type} {K:List (List (List UInt8))->Option R}:((bif decide ((i:Int)<(s.fElements.length:Int)) then(dg s.fElements (i:Int)).bind fun e=>some (Sum.inl e.fRepeats) else some (Sum.inl []):Option (List (List (List UInt8))⊕R)).bind (bX K))=K (fF s i):=by
 unfold fF
 cases h:s.fElements[i]? with
 |none=>
  rw[PE] at h
  rw[Ql oM];rfl
 |some e=>
  rw[bH (bI h),av,h];rfl
theorem Iq {s:aj} {i:Nat} {R:Type} {K:List (List (List UInt8))->Option R}:((bif decide ((i:Int)<(s.fElements.length:Int)) then s.fElements[i]?.bind fun e=>some (Sum.inl e.fRepeats) else some (Sum.inl []):Option (List (List (List UInt8))⊕R)).bind (bX K))=K (fF s i):=by
 rw[<-av];exact Kg
theorem Ir (l:List (List (List UInt8))) (hl:l.length<=1000/\∀ x∈l,x.length<=1000) {A:Type}:(bx (fun s:Bool×Int=>bif decide (s.snd<(l.length:Int)) then(kn s.fst ((dg l s.snd).bind fun e=>(fB e).bind fun x=>some x)).bind fun v=>some (Sum.inl (v,IntKind.i64.wrap (s.snd+1))) else cS (some (Sum.inl (s.fst,s.snd)))) (true,0):Option ((Bool×Int)⊕A))=some (Sum.inl (l.all uw,(l.length:Int))):=by
 refine py l (fun k pre=>(pre.all uw,(k:Int))) (a:=(Sum.inl (l.all uw,(l.length:Int)):(Bool×Int)⊕A)) (fun k e he=> ?_) ?_
 ·have hk:=bI he
  simp only[bH hk,OL,av,he,OA,Hk e (hl.2 e (OE he)),bP,cG k oM]
  simp
 ·simp only[ar,OO];rfl
theorem Is (x:aq) (hx:MZ x) (l:List (List (List UInt8))) (hl:l.length<=20/\∀ q∈l,q.length<=20/\∀ t∈q,t.length<=1000/\t.all (pD 32 126)=true) (X:List Fl) (hX:X.length<=1000000) (e:Int) {A:Type}:
  (bx (fun s:List Fl×Int=>(kn (decide (s.snd<(l.length:Int))) (some (decide (s.snd<x.fMost)))).bind fun v=>bif v then(dg l s.snd).bind fun e_1=>(dK x e_1 e (IntKind.i64.wrap (s.snd+1))).bind fun y=>jV (tu (s.fst.length+y.length)) (some (Sum.inl (s.fst++y,IntKind.i64.wrap (s.snd+1)))) else cS (some (Sum.inl (s.fst,s.snd)))) (X,0):Option ((List Fl×Int)⊕A))=
   some (Sum.inl (X++dX (fun k q=>jm x q e ((k+1:Nat):Int)) 0 (l.take x.fMost.toNat),((l.take x.fMost.toNat).length:Int))):=by
 have hmo:=hx.most
 have e0:(X,(0:Int))=(X++dX (fun k q=>jm x q e ((k+1:Nat):Int)) 0 [],((0:Nat):Int)):=by simp[dX]
 rw[e0]
 refine py (l.take x.fMost.toNat) (fun k pre=>(X++dX (fun k q=>jm x q e ((k+1:Nat):Int)) 0 pre,(k:Int))) (a:=(Sum.inl (X++dX (fun k q=>jm x q e ((k+1:Nat):Int)) 0 (l.take x.fMost.toNat),((l.take x.fMost.toNat).length:Int)):(List Fl×Int)⊕A)) (fun k q hq=> ?_) ?_
 ·have hk:=bI hq
  have htl:=sZ hq
  have hlt:k<x.fMost.toNat/\k<l.length:=by rw[OT] at hk;omega
  rw[List.getElem?_take_of_lt hlt.1] at hq
  have hqm:=OE hq
  have hlen:=eB (b:=82) (f:=fun k q=>jm x q e ((k+1:Nat):Int)) ((l.take x.fMost.toNat).take k) 0 (fun i q _=>oX x hx.many _ _ _)
  have hrl:=oX x hx.many q e ((k+1:Nat):Int)
  simp only[bH hlt.2,bP,OA,OZ,av,hq,cG k oM,oV,htl]
  rw[PG (show(k:Int)<x.fMost by omega),OL,LD x hx q (hl.2 q hqm),OA,gL (by rw[OD];omega),OK]
 ·have:(decide (((l.take x.fMost.toNat).length:Int)<(l.length:Int))&&decide (((l.take x.fMost.toNat).length:Int)<x.fMost))=false:=by
   rw[OT,PC]
   simp only[Pb]
   omega
  simp only[bP,OA,this,OO];rfl
theorem LE (d:Df) (hd:Nq d) (s:aj) (hs:N8 s):i8 d s=some (pz d s):=by
 unfold i8 tM;dsimp only
 have hm:=hd.many
 simp only[GG]
 refine dS (py d.fElements (fun i pre=>(dX (fun i x=>gM x (fF s i) ((i+1:Nat):Int)) 0 pre,(i:Int))) (a:=(Sum.inl (dX (fun i x=>gM x (fF s i) ((i+1:Nat):Int)) 0 d.fElements,(d.fElements.length:Int)):(List Fl×Int)⊕List Fl)) (fun i x hx=> ?_) ?_) ?_
 ·have hi:=bI hx
  have hxm:=OE hx
  have hxd:=hd.elems x hxm
  have hmo:=hxd.most
  have htl:=sZ hx
  obtain⟨g1,g2⟩:=Dv hs i
  have hlen:=eB (b:=1641) (f:=fun i x=>gM x (fF s i) ((i+1:Nat):Int)) (d.fElements.take i) 0 (fun i x hx=>ro x (hd.elems x (FA hx)) _ _)
  rw[htl] at hlen
  simp only[bH hi,OL,av,Iq,hx,OA,oV,htl,cG i oM]
  rw[Ir _ ⟨by omega,fun q hq=>by have:=(g2 q hq).1;omega⟩,OA]
  simp only[bX]
  unfold gM
  cases hb:(fF s i).all uw with
  |true=>
   rw[OL,Qa rfl]
   by_cases hn:x.fNeeded=true
   ·rw[hn,OL,Qa rfl,gL (by simp only[Ph];unfold gM at hlen;omega)]
   ·rw[P7 hn,PN.2 hn];simp
  |false=>
   rw[OO,P7 oS,Is x hxd _ ⟨g1,g2⟩ _ (by unfold gM at hlen;omega),OA]
   simp only[bX]
   have h1:=eB (b:=82) (f:=fun k l=>jm x l ((i+1:Nat):Int) ((k+1:Nat):Int)) ((fF s i).take x.fMost.toNat) 0 (fun i l _=>oX x hxd.many _ _ _)
   have h3:((fF s i).take x.fMost.toNat).length<=20:=by rw[OT];omega
   have hwm:IntKind.i64.wrap (x.fMost+1)=x.fMost+1:=bn _ oM oM
   simp only[hwm]
   by_cases hc:x.fMost<((fF s i).length:Int)
   ·rw[Qa hc,PG hc,OL,gL (by simp only[OD,Ph];unfold gM at hlen;omega)]
    simp
   ·rw[P7 hc,Ql hc];simp
 ·simp only[ar,OO];rfl
 ·simp only[bX]
  have hlen:=eB (b:=1641) (f:=fun i x=>gM x (fF s i) ((i+1:Nat):Int)) d.fElements 0 (fun i x hx=>ro x (hd.elems x hx) _ _)
  rw[Hm oM,Eo,cG _ oM]
  unfold pz
  simp only[OC]
theorem B_ {α:Type} (l:List α) (q:α->Bool) {f:Int->Option (Int⊕(Int⊕Int))}
  (hb:∀ (i:Nat) (e:α),l[i]?=some e->f (i:Int)=if q e=true then some (.inr (.inr (i:Int))) else some (.inl ((i+1:Nat):Int))) (he:f (l.length:Int)=some (.inr (.inl (l.length:Int)))):
  ∃ n,(bx f 0).bind (bX fun _=>some (-1))=some n/\decide (0<=n)=l.any q:=by
 refine me (X:=Nat) (fun i=>((i:Nat):Int)) (fun i=>l.length - i) (fun i=>i<=l.length/\(l.take i).any q=false) ?_ 0 ⟨Pi _,by simp⟩
 rintro i ⟨h1,h2⟩
 rcases O2 i l.length with hi|hi
 ·obtain⟨e,hx⟩:=jw hi
  by_cases hq:q e=true
  ·refine .inr ⟨_,(i:Int),by rw[hb i e hx,Qa hq],rfl, ?_⟩
   have:l.any q=true:=P9.2 ⟨e,OE hx,hq⟩
   rw[this];simp
  ·refine .inl ⟨i+1,⟨hi, ?_⟩,by omega,by rw[hb i e hx,P7 hq]⟩
   rw[ng hx,List.any_append,h2]
   simp[hq]
 ·have hl:i=l.length:=by omega
  subst hl
  rw[PH] at h2
  exact .inr ⟨_, -1,he,rfl,by rw[h2];rfl⟩
theorem GH (l:List (List UInt8)) (x:List UInt8) (hl:l.length<=1000):eL l x=some (l.contains x):=by
 unfold eL f0;dsimp only
 unfold jF cQ;dsimp only
 obtain⟨n,h1,h2⟩:=B_ l (fun e=>decide (x=e)) (f:=fun s:Int=>bif decide (s<(l.length:Int)) then(dg l s).bind fun e=>bif decide (x=e) then cS (cS (some s)) else some (Sum.inl (IntKind.i64.wrap (s+1))) else cS (some (Sum.inl s))) (fun i e he=>by
  have hi:=bI he
  simp only[bH hi,OL,av,he,OA,cG i oM]
  by_cases hx:x=e
  ·rw[PG hx];rfl
  ·rw[Ql hx];rfl) (by simp only[ar,OO];rfl)
 rw[h1,OA,h2]
 congr 1
 rw[List.contains_eq_any_beq]
 congr 1
 funext e
 rw[O1];simp
theorem NJ (l:List (List UInt8)) (hl:l.length<=1000) (f1:FuncId) (c1:List DV) (p1:List UInt8->Option Bool) (h1) (q:List UInt8->Bool) (hq:∀ a∈l,p1 a=some (q a)):dG l f1 c1 p1 h1=some (l.any q):=by
 unfold dG f0;dsimp only
 unfold gR cQ;dsimp only
 obtain⟨n,h1,h2⟩:=B_ l q (f:=fun s:Int=>bif decide (s<(l.length:Int)) then(dg l s).bind fun e=>(p1 e).bind fun x=>bif x then cS (cS (some s)) else some (Sum.inl (IntKind.i64.wrap (s+1))) else cS (some (Sum.inl s))) (fun i e he=>by
  have hi:=bI he
  simp only[bH hi,OL,av,he,OA,hq e (OE he),cG i oM]
  cases q e<;>rfl) (by simp only[ar,OO];rfl)
 rw[h1,OA,h2]
theorem NK (l:List (List (List UInt8))) (hl:l.length<=1000) (f1:FuncId) (c1:List DV) (p1:List (List UInt8)->Option Bool) (h1) (q:List (List UInt8)->Bool) (hq:∀ a∈l,p1 a=some (q a)):bD l f1 c1 p1 h1=some (l.any q):=by
 unfold bD f0;dsimp only
 unfold gj cQ;dsimp only
 obtain⟨n,h1,h2⟩:=B_ l q (f:=fun s:Int=>bif decide (s<(l.length:Int)) then(dg l s).bind fun e=>(p1 e).bind fun x=>bif x then cS (cS (some s)) else some (Sum.inl (IntKind.i64.wrap (s+1))) else cS (some (Sum.inl s))) (fun i e he=>by
  have hi:=bI he
  simp only[bH hi,OL,av,he,OA,hq e (OE he),cG i oM]
  cases q e<;>rfl) (by simp only[ar,OO];rfl)
 rw[h1,OA,h2]
theorem Hn (l:List (List UInt8)) (hl:l.length<=1000):oH l=some (uw l):=by
 unfold oH tE;dsimp only
 rw[NJ l hl _ _ _ _ (fun s=> !decide (s=[])) (fun a _=>by
  unfold rg cQ;dsimp only),Option.bind_some]
 unfold uw
 rw[List.all_eq_not_any_not]
theorem Dw {l:List Fl} {k e r p:Int} (h:l.length<=137438953471):a_ ⟨l⟩ k e r p=some ((),⟨l++[pG k e r p]⟩):=by
 unfold a_ tD;dsimp only
 rw[gL (by simp only[Ph];omega)];rfl
theorem Er {c:Bool} {l:List Fl} {k e r p:Int} {R:Type} {K:List Fl->Option R} (h:l.length<=137438953471):
  ((bif c then((a_ ⟨l⟩ k e r p).bind fun y=>some (Sum.inl y.snd.fflaws)).bind (bX fun s=>some (Sum.inl s)) else some (Sum.inl l):Option (List Fl⊕R)).bind (bX K))=K (l++if c=true then[pG k e r p] else[]):=by
 cases c with
 |true=>rw[OL,Dw h];rfl
 |false=>simp[bX]
theorem Dx {c:Bool} {l:List Fl} {k e r p:Int} (h:l.length<=137438953471):
  (bif c then(a_ ⟨l⟩ k e r p).bind fun y=>some ((),({fflaws:=y.snd.fflaws}:aL)) else some ((),{fflaws:=l}))=some ((),⟨l++if c=true then[pG k e r p] else[]⟩):=by
 cases c with
 |true=>rw[OL,Dw h];rfl
 |false=>simp
theorem Ca {c:Bool} {l:List Fl} {k e r p:Int} (h:l.length<=137438953471):
  (bif c then((a_ ⟨l⟩ k e r p).bind fun y=>some (Sum.inl y.snd.fflaws)).bind (bX fun s=>some ((),({fflaws:=s}:aL))) else some ((),{fflaws:=l}))=some ((),⟨l++if c=true then[pG k e r p] else[]⟩):=by
 cases c with
 |true=>rw[OL,Dw h];rfl
 |false=>simp
theorem Kh (d:aE) (hd:Og d) (s:List UInt8) (hs:s.length<=1000) (a:oJ) (l:List Fl) (hl:l.length<=1000000):eu ⟨l⟩ d s a=some ((),⟨l++fE d s a.fElement a.fRepeat a.fPart⟩):=by
 unfold eu tF;dsimp only
 unfold fE
 by_cases h0:s=[]
 ·rw[PG h0,OL,Qa h0,Ca oM]
 ·rw[Ql h0,OO,P7 h0]
  have b1:=Ep (decide ((s.length:Int)<d.fMin)=true) (pG 9 a.fElement a.fRepeat a.fPart)
  have b2:=Ep (decide (d.fMax<(s.length:Int))=true) (pG 10 a.fElement a.fRepeat a.fPart)
  have b3:=Ep ((!rL d.fType s)=true) (pG 11 a.fElement a.fRepeat a.fPart)
  have h11:(if(!rL d.fType s)=true then[pG 11 a.fElement a.fRepeat a.fPart] else[])=(if rL d.fType s=true then[] else[pG 11 a.fElement a.fRepeat a.fPart]):=by cases rL d.fType s<;>rfl
  rw[Er oM,Er (by rw[OD];omega),Ce s d.fType h0 hs,OA,Er (by rw[OD,OD];omega),GH _ _ hd.codes]
  simp only[OA,bP,NW]
  rw[Ca (by simp only[OD];omega),h11]
  have h12:(if(!decide (d.fCodes=[])&& !d.fCodes.contains s)=true then[pG 12 a.fElement a.fRepeat a.fPart] else[])=(if d.fCodes=[]\/d.fCodes.contains s=true then[] else[pG 12 a.fElement a.fRepeat a.fPart]):=by
   by_cases hk:d.fCodes=[]\/d.fCodes.contains s=true
   ·rw[Qa hk,P7]
    rcases hk with hk|hk
    ·simp[hk]
    ·rw[hk];simp
   ·rw[P7 hk,Qa]
    rw[Ql fun h=>hk (.inl h),PN.2 fun h=>hk (.inr h)];rfl
  rw[h12]
  simp only[OC,OK]
theorem LF (d:aq) (hd:MZ d) (q:List (List UInt8)) (hq:q.length<=20/\∀ t∈q,t.length<=1000/\t.all (pD 32 126)=true) (e r:Int) (l:List Fl) (hl:l.length<=900000):d9 ⟨l⟩ d q e r=some ((),⟨l++jm d q e r⟩):=by
 unfold d9 tH;dsimp only
 have hm:=hd.many
 rw[Hn q oM,OA]
 have hw:IntKind.i64.wrap ((d.fParts.length:Int)+1)=((d.fParts.length+1:Nat):Int):=cG _ oM
 have fin:∀ X:List Fl,X.length<=1000000->(bif decide ((d.fParts.length:Int)<(q.length:Int)) then(a_ {fflaws:=X} 7 e r (IntKind.i64.wrap ((d.fParts.length:Int)+1))).bind fun y=>some ((),({fflaws:=y.snd.fflaws}:aL)) else some ((),{fflaws:=X}))=some ((),⟨X++if d.fParts.length<q.length then[pG 7 e r ((d.fParts.length+1:Nat):Int)] else[]⟩):=fun X hX=>by
  rw[Dx oM,hw,Eo]
  simp only[OC]
 unfold jm
 cases hE:uw q with
 |true=>
  rw[OL,Dw oM,OA]
  dsimp only
  rw[fin _ (by simp only[OD,Ph];omega),Qa rfl,OK]
 |false=>
  rw[OO,P7 oS]
  have h1:=eB (b:=4) (f:=fun i p=>fE p (q.getD i []) e r ((i+1:Nat):Int)) d.fParts 0 (fun i p _=>oW _ _ _ _ _)
  rw[show(l,(0:Int))=(l++dX (fun i p=>fE p (q.getD i []) e r ((i+1:Nat):Int)) 0 [],((0:Nat):Int)) by simp[dX]]
  refine dS (py d.fParts (fun i pre=>(l++dX (fun i p=>fE p (q.getD i []) e r ((i+1:Nat):Int)) 0 pre,(i:Int))) (a:=(Sum.inl (l++dX (fun i p=>fE p (q.getD i []) e r ((i+1:Nat):Int)) 0 d.fParts,(d.fParts.length:Int)):(List Fl×Int)⊕(Unit×aL))) (fun i p hp=> ?_) ?_) ?_
  ·have hi:=bI hp
   have hpm:=OE hp
   have htl:=sZ hp
   have h2:=eB (b:=4) (f:=fun i p=>fE p (q.getD i []) e r ((i+1:Nat):Int)) (d.fParts.take i) 0 (fun i p _=>oW _ _ _ _ _)
   obtain⟨g1,g2⟩:=Hl hq.2 i
   have hor:∀ (X:List Fl) (R:Type) (K:List Fl×List UInt8->Option R),((bif decide ((i:Int)<(q.length:Int)) then q[i]?.bind fun e=>some (Sum.inl (X,e)) else some (Sum.inl (X,[])):Option ((List Fl×List UInt8)⊕R)).bind (bX K))=K (X,q.getD i []):=fun X R K=>by
    rw[List.getD_eq_getElem?_getD]
    cases h:q[i]? with
    |none=>
     rw[PE] at h
     rw[Ql oM];rfl
    |some e=>rw[bH (bI h)];rfl
   simp only[bH hi,OL,av,hp,OA,hor,oV,htl,cG i oM]
   rw[Kh p (hd.parts p hpm) _ g1 _ _ (by rw[OD];omega),OA,OK]
  ·simp only[ar,OO];rfl
  ·simp only[bX]
   rw[fin _ (by rw[OD];omega),OK]
theorem LG (x:aq) (hx:MZ x) (q:bV) (hq:q.fRepeats.length<=20/\∀ r∈q.fRepeats,r.length<=20/\∀ t∈r,t.length<=1000/\t.all (pD 32 126)=true) (e:Int) (l:List Fl) (hl:l.length<=800000):cI ⟨l⟩ x q e=some ((),⟨l++(dX (fun k r=>jm x r e ((k+1:Nat):Int)) 0 (q.fRepeats.take x.fMost.toNat)++if x.fMost<(q.fRepeats.length:Int) then[pG 6 e (x.fMost+1) 0] else[])⟩):=by
 unfold cI tI;dsimp only
 have hmo:=hx.most
 have hs:fh q.fRepeats ((none:Option Int).getD 0) ((some (if(q.fRepeats.length:Int)<x.fMost then(q.fRepeats.length:Int) else x.fMost)).getD (q.fRepeats.length:Int))=some (q.fRepeats.take x.fMost.toNat):=by
  show fh q.fRepeats 0 (if(q.fRepeats.length:Int)<x.fMost then(q.fRepeats.length:Int) else x.fMost)=_
  have:(if(q.fRepeats.length:Int)<x.fMost then(q.fRepeats.length:Int) else x.fMost)=((min x.fMost.toNat q.fRepeats.length:Nat):Int):=by split<;>omega
  rw[this]
  unfold fh
  rw[Qa oM]
  simp only[Int.toNat_zero,List.drop_zero,PO,Nat.sub_zero]
  congr 1
  rw[List.take_eq_take_min]
  simp
 rw[hs,OA]
 have h3:(q.fRepeats.take x.fMost.toNat).length<=20:=by rw[OT];omega
 have h1:=eB (b:=82) (f:=fun k r=>jm x r e ((k+1:Nat):Int)) (q.fRepeats.take x.fMost.toNat) 0 (fun i l _=>oX x hx.many _ _ _)
 rw[show(l,(0:Int))=(l++dX (fun k r=>jm x r e ((k+1:Nat):Int)) 0 [],((0:Nat):Int)) by simp[dX]]
 refine dS (py (q.fRepeats.take x.fMost.toNat) (fun i pre=>(l++dX (fun k r=>jm x r e ((k+1:Nat):Int)) 0 pre,(i:Int))) (a:=(Sum.inl (l++dX (fun k r=>jm x r e ((k+1:Nat):Int)) 0 (q.fRepeats.take x.fMost.toNat),((q.fRepeats.take x.fMost.toNat).length:Int)):(List Fl×Int)⊕(Unit×aL))) (fun k r hr=> ?_) ?_) ?_
 ·have hk:=bI hr
  have htl:=sZ hr
  have hrm:=O0 (OE hr)
  have hlen:=eB (b:=82) (f:=fun k r=>jm x r e ((k+1:Nat):Int)) ((q.fRepeats.take x.fMost.toNat).take k) 0 (fun i q _=>oX x hx.many _ _ _)
  simp only[bH hk,OL,av,hr,OA,cG k oM,oV,htl]
  rw[LF x hx r (hq.2 r hrm) e _ _ (by rw[OD];omega),OA,OK]
 ·simp only[ar,OO];rfl
 ·simp only[bX]
  have hwm:IntKind.i64.wrap (x.fMost+1)=x.fMost+1:=bn _ oM oM
  rw[Dx (by rw[OD];omega),hwm,OK]
  simp only[OC]
theorem wx {S A:Type} {f:S->Option (S⊕A)} {s s':S} {r:Option A} (h:f s=some (.inl s')) (hr:bx f s'=r):bx f s=r:=by rw[ct,h];exact hr
theorem A0 {S A:Type} {f:S->Option (S⊕A)} {s:S} {a:A} (h:f s=some (.inr a)):bx f s=some a:=by rw[ct,h]
theorem DH {A R:Type} {m:Option A} {k:A->Option R} {a:A} {r:Option R} (h:m=some a) (hk:k a=r):m.bind k=r:=by rw[h];exact hk
theorem KX:sf [66,71,77]=some true:=by rw[Hi _ oD];rfl
theorem KY:ij [{fTag:=[66,71,77],fElements:=[]}]=some 0:=by
 rw[Km _ (fun s hs=>by rw[OP.1 hs];decide)];rfl
theorem FV:cP {fmany:=0} {fName:=[],fSegment:={fTag:=[66,71,77],fElements:=[]},fKids:=[]} 0=some (0,{fmany:=1}):=by
 unfold cP vq;dsimp only
 rw[KY];rfl
theorem I1:mD [{fName:=[],fSegment:={fTag:=[66,71,77],fElements:=[]},fKids:=[]}]=some 0:=by
 unfold mD vA;dsimp only
 unfold hJ vt;dsimp only
 refine DH (a:=(0,{fmany:=1})) (dS (a:= .inl (1,1)) (wx (s':=(1,1)) ?_ (A0 rfl)) rfl) rfl
 show(cP {fmany:=0} {fName:=[],fSegment:={fTag:=[66,71,77],fElements:=[]},fKids:=[]} 0).bind _=_
 rw[FV];rfl
theorem I2:iY [66,71,77] 47=some (-1):=by
 unfold iY mY;dsimp only
 unfold fi jk;dsimp only
 refine DH (a:= -1) (dS (a:= .inl (-1)) (wx (s':=1) rfl (wx (s':=0) rfl (wx (s':= -1) rfl (A0 rfl)))) rfl) rfl
theorem KZ:ra [66,71,77]=some ({fNames:=[],fTag:=[66,71,77],fElement:=0,fPart:=0},true):=by
 have hs:mg [66,71,77] [46]=some [[66,71,77]]:=by
  unfold mg
  rw[Qa oD]
  decide
 unfold ra vr;dsimp only
 rw[show UInt8.ofNat (Int.toNat 47)=47 from rfl,I2,OA,hs]
 simp only[show decide ((0:Int)<= -1)=false from rfl,OO,OA,show dg [[(66:UInt8),71,77]] 0=some [66,71,77] from rfl,KX]
 refine dS (a:= .inl ()) (A0 rfl) rfl
theorem HG:nM [{fName:=[],fSegment:={fTag:=[66,71,77],fElements:=[]},fKids:=[]}] {fNames:=[],fTag:=[66,71,77],fElement:=0,fPart:=0}=some [[66,71,77]]:=by
 unfold nM mY;dsimp only
 unfold ud jk;dsimp only
 refine DH (dS (a:= .inl ()) (A0 rfl) rfl) ?_
 refine dS (a:= .inl ([[66,71,77]],1)) (wx (s':=([[66,71,77]],1)) (dS (a:= .inl ([[66,71,77]],1)) (wx (s':=([[66,71,77]],1)) rfl (A0 rfl)) rfl) (A0 rfl)) rfl
theorem HH:iZ=some true:=by
 unfold iZ vD;dsimp only
 unfold wR vC;dsimp only
 unfold rb vw;dsimp only
 rw[I1,KZ]
 show(((nM _ {fNames:=[],fTag:=[66,71,77],fElement:=0,fPart:=0}).bind _).bind _)=_
 rw[HG];rfl
def QF (b:Fl):Prop:=(0<=b.fAt.fElement/\b.fAt.fElement<=1000)/\(0<=b.fAt.fRepeat/\b.fAt.fRepeat<=1000)/\(0<=b.fAt.fPart/\b.fAt.fPart<=1000)/\(0<=b.fKind/\b.fKind<=1000)
theorem Oh:Hv QF dQ Dr:=by
 rintro a b ⟨a1,a2,a3,a4⟩ ⟨b1,b2,b3,b4⟩
 unfold dQ cQ;dsimp only
 have w1:IntKind.i64.wrap (a.fAt.fElement - b.fAt.fElement)=a.fAt.fElement - b.fAt.fElement:=bn _ oM oM
 have w2:IntKind.i64.wrap (a.fAt.fRepeat - b.fAt.fRepeat)=a.fAt.fRepeat - b.fAt.fRepeat:=bn _ oM oM
 have w3:IntKind.i64.wrap (a.fAt.fPart - b.fAt.fPart)=a.fAt.fPart - b.fAt.fPart:=bn _ oM oM
 have w4:IntKind.i64.wrap (a.fKind - b.fKind)=a.fKind - b.fKind:=bn _ oM oM
 rw[w1,w2,w3,w4]
 by_cases h1:a.fAt.fElement - b.fAt.fElement=0
 ·by_cases h2:a.fAt.fRepeat - b.fAt.fRepeat=0
  ·by_cases h3:a.fAt.fPart - b.fAt.fPart=0
   ·by_cases h4:a.fKind - b.fKind=0
    ·refine⟨0,dS (a:=(Sum.inl 4:Int⊕Int)) (wx (s':=1) ?_ (wx (s':=2) ?_ (wx (s':=3) ?_ (wx (s':=4) ?_ (A0 rfl))))) rfl, ?_⟩
     ·show(bif !decide (a.fAt.fElement - b.fAt.fElement=0) then _ else _)=_
      rw[PG h1];rfl
     ·show(bif !decide (a.fAt.fRepeat - b.fAt.fRepeat=0) then _ else _)=_
      rw[PG h2];rfl
     ·show(bif !decide (a.fAt.fPart - b.fAt.fPart=0) then _ else _)=_
      rw[PG h3];rfl
     ·show(bif !decide (a.fKind - b.fKind=0) then _ else _)=_
      rw[PG h4];rfl
     ·unfold Dr
      have:¬ (a.fAt.fElement<b.fAt.fElement\/(a.fAt.fElement=b.fAt.fElement/\(a.fAt.fRepeat<b.fAt.fRepeat\/(a.fAt.fRepeat=b.fAt.fRepeat/\(a.fAt.fPart<b.fAt.fPart\/(a.fAt.fPart=b.fAt.fPart/\a.fKind<b.fKind)))))):=by omega
      rw[Ql this];rfl
    ·refine⟨a.fKind - b.fKind,dS (a:=(Sum.inr (a.fKind - b.fKind):Int⊕Int)) (wx (s':=1) ?_ (wx (s':=2) ?_ (wx (s':=3) ?_ (A0 ?_)))) rfl, ?_⟩
     ·show(bif !decide (a.fAt.fElement - b.fAt.fElement=0) then _ else _)=_
      rw[PG h1];rfl
     ·show(bif !decide (a.fAt.fRepeat - b.fAt.fRepeat=0) then _ else _)=_
      rw[PG h2];rfl
     ·show(bif !decide (a.fAt.fPart - b.fAt.fPart=0) then _ else _)=_
      rw[PG h3];rfl
     ·show(bif !decide (a.fKind - b.fKind=0) then _ else _)=_
      rw[Ql h4];rfl
     ·unfold Dr;congr 1;apply propext;omega
   ·refine⟨a.fAt.fPart - b.fAt.fPart,dS (a:=(Sum.inr (a.fAt.fPart - b.fAt.fPart):Int⊕Int)) (wx (s':=1) ?_ (wx (s':=2) ?_ (A0 ?_))) rfl, ?_⟩
    ·show(bif !decide (a.fAt.fElement - b.fAt.fElement=0) then _ else _)=_
     rw[PG h1];rfl
    ·show(bif !decide (a.fAt.fRepeat - b.fAt.fRepeat=0) then _ else _)=_
     rw[PG h2];rfl
    ·show(bif !decide (a.fAt.fPart - b.fAt.fPart=0) then _ else _)=_
     rw[Ql h3];rfl
    ·unfold Dr;congr 1;apply propext;omega
  ·refine⟨a.fAt.fRepeat - b.fAt.fRepeat,dS (a:=(Sum.inr (a.fAt.fRepeat - b.fAt.fRepeat):Int⊕Int)) (wx (s':=1) ?_ (A0 ?_)) rfl, ?_⟩
   ·show(bif !decide (a.fAt.fElement - b.fAt.fElement=0) then _ else _)=_
    rw[PG h1];rfl
   ·show(bif !decide (a.fAt.fRepeat - b.fAt.fRepeat=0) then _ else _)=_
    rw[Ql h2];rfl
   ·unfold Dr;congr 1;apply propext;omega
 ·refine⟨a.fAt.fElement - b.fAt.fElement,dS (a:=(Sum.inr (a.fAt.fElement - b.fAt.fElement):Int⊕Int)) (A0 ?_) rfl, ?_⟩
  ·show(bif !decide (a.fAt.fElement - b.fAt.fElement=0) then _ else _)=_
   rw[Ql h1];rfl
  ·unfold Dr;congr 1;apply propext;omega
theorem M2 {d:Df} (hd:Nq d) {s:aj}:∀ x∈pz d s,QF x:=fun x hx=>by
 have hm:=hd.many
 obtain⟨q1,q2,q3,q4,q5,q6,q7⟩:=Kc (fun e he=>(hd.elems e he).most.1) hx
 rcases q7 with⟨r1,r2⟩|⟨e,he,r1,r2⟩
 ·exact⟨⟨by omega,by omega⟩,⟨by omega,by omega⟩,⟨by omega,by omega⟩,by omega,by omega⟩
 ·have h1:=(hd.elems e he).most
  have h2:=(hd.elems e he).many
  exact⟨⟨by omega,by omega⟩,⟨by omega,by omega⟩,⟨by omega,by omega⟩,by omega,by omega⟩
theorem LH {d:Df} (hd:Nq d) {s:aj} {f:FuncId} {c:List DV} (h:∀ a0 a1 r,dQ a0 a1=some r->aa Tryz.prog f ([.agg (ab a0),.agg (ab a1)]++c) (.int .i64 r)):ay (pz d s) f c dQ h=some ((),pz d s):=by
 have hl:=Du d hd s
 obtain⟨W,g1,g2,g3⟩:=CM h NI Oh (pz d s) (M2 hd) oM
 rw[g1,LA (Kd s (fun e he=>(hd.elems e he).most.1)) g2 g3]
theorem LI (d:Df) (hd:Nq d) (s:aj) (hs:N8 s):ri d s=some (pz d s):=by
 unfold ri tJ;dsimp only
 have hm:=hd.many
 have hcf:∀ (l:List (List (List UInt8))) (f1 c1 h1),l.length<=20->(∀ q∈l,q.length<=20)->bD l f1 c1 k_ h1=some (!l.all uw):=fun l f1 c1 h1 hl hq=>by
  rw[NK l oM f1 c1 _ h1 (fun q=> !uw q) (fun q hqm=>by
   unfold k_ tG;dsimp only
   rw[Hn q (by have:=hq q hqm;omega)];rfl)]
  rw[List.all_eq_not_any_not,Bool.not_not]
 have hel:∀ (x:aq),MZ x->∀ (q:bV),(q.fRepeats.length<=20/\∀ r∈q.fRepeats,r.length<=20/\∀ t∈r,t.length<=1000/\t.all (pD 32 126)=true)->∀ (e:Int) (l:List Fl) (f1 c1 h1) (i:Nat),i<=50->e=((i+1:Nat):Int)->l.length<=700000->
   ((bD q.fRepeats f1 c1 k_ h1).bind fun y=>bif !y then bif x.fNeeded then(a_ {fflaws:=l} 8 e 0 0).bind fun y=>some (Sum.inl (y.snd.fflaws,e)) else some (Sum.inl (l,e)) else(cI {fflaws:=l} x q e).bind fun y=>some (Sum.inl (y.snd.fflaws,e)):Option ((List Fl×Int)⊕((List Fl×Int)⊕List Fl)))=some (Sum.inl (l++gM x q.fRepeats e,e)):=by
  intro x hx q hq e l f1 c1 h1 i hi he hl
  rw[hcf _ _ _ _ hq.1 (fun r hr=>(hq.2 r hr).1),OA]
  unfold gM
  cases hb:q.fRepeats.all uw with
  |true=>
   rw[Qa rfl]
   simp only[OS,Po,OL]
   by_cases hn:x.fNeeded=true
   ·rw[hn,OL,Qa rfl,Dw oM];rfl
   ·rw[P7 hn,PN.2 hn];simp
  |false=>
   rw[P7 oS]
   simp only[OS,Po,OO]
   rw[LG x hx q hq e l oM];rfl
 refine dS (py d.fElements (fun i pre=>(dX (fun i x=>gM x (fF s i) ((i+1:Nat):Int)) 0 pre,(i:Int))) (a:=(Sum.inl (dX (fun i x=>gM x (fF s i) ((i+1:Nat):Int)) 0 d.fElements,(d.fElements.length:Int)):(List Fl×Int)⊕List Fl)) (fun i x hx=> ?_) ?_) ?_
 ·have hi:=bI hx
  have hxm:=OE hx
  have hxd:=hd.elems x hxm
  have htl:=sZ hx
  obtain⟨g1,g2⟩:=Dv hs i
  have hlen:=eB (b:=1641) (f:=fun i x=>gM x (fF s i) ((i+1:Nat):Int)) (d.fElements.take i) 0 (fun i x hx=>ro x (hd.elems x (FA hx)) _ _)
  rw[htl] at hlen
  simp only[bH hi,OL,av,hx,OA,oV,htl,cG i oM]
  cases hq:s.fElements[i]? with
  |none=>
   have hr:fF s i=[]:=by unfold fF;rw[hq]
   rw[PE] at hq
   rw[Ql oM,OO,hr]
   exact hel x hxd ⟨[]⟩ ⟨by simp,fun r hr=>by cases hr⟩ _ _ _ _ _ i oM rfl oM
  |some q=>
   have hr:fF s i=q.fRepeats:=by unfold fF;rw[hq]
   rw[bH (bI hq),OL,OA,hr]
   rw[hr] at g1 g2
   exact hel x hxd q ⟨g1,g2⟩ _ _ _ _ _ i oM rfl oM
 ·simp only[ar,OO];rfl
 ·simp only[bX]
  have hlen:=eB (b:=1641) (f:=fun i x=>gM x (fF s i) ((i+1:Nat):Int)) d.fElements 0 (fun i x hx=>ro x (hd.elems x hx) _ _)
  have hsort:∀ (f:FuncId) (c:List DV) h,ay (pz d s) f c dQ h=some ((),pz d s):=fun f c h=>LH hd (s:=s) (f:=f) (c:=c) h
  unfold pz at hsort⊢
  rw[Eo,cG _ oM]
  by_cases hc:d.fElements.length<s.fElements.length
  ·rw[Qa hc] at hsort⊢
   rw[PG hc,OL,Dw oM,OA]
   dsimp only
   rw[hsort];rfl
  ·rw[P7 hc] at hsort⊢
   rw[OY] at hsort⊢
   rw[Ql hc,OO,hsort];rfl
def pF (d:Df) (s:aj):List Fl×Int:=if d.fTag≠s.fTag then([],3) else if nW [d]≠0 then([],nW [d]) else if Iv s≠0 then([],Iv s) else(pz d s,0)
theorem yU {d:Df} (h:nW [d]=0):yQ d.fTag=true/\FC d=0:=by
 unfold nW at h
 rw[P7 oS] at h
 obtain⟨q,hq⟩:=yV h d (OP.2 rfl)
 unfold Cc at hq
 split at hq
 ·cases hq
 rename_i c1
 split at hq
 ·cases hq
 exact⟨by cases hv:yQ d.fTag with|true=>rfl|false=>exact absurd hv c1,hq⟩
def Es (d:Df):br:=⟨[97],[97],[d],[⟨d.fTag,[],1,1,[]⟩]⟩
theorem Ki (d:Df):Oa (Es d)=nW [d]:=by
 unfold Oa Es
 rw[P7 (show¬ (kQ [97]=false\/kQ [97]=false) by decide)]
 by_cases h:nW [d]=0
 ·rw[P7 (not_not_intro h),h]
  obtain⟨h1, -⟩:=yU h
  have hk:wW (bJ [d]) 8 [⟨d.fTag,[],1,1,[]⟩] 0 0=(0,1):=by
   show Ns (bJ [d]) (fun it m=>wW (bJ [d]) 7 it (0+1) m) 0 [⟨d.fTag,[],1,1,[]⟩] 0=_
   unfold Ns
   rw[P7 oS,P7 oS]
   unfold oj
   have hi:xO (bJ [d]) (fun it m=>wW (bJ [d]) 7 it (0+1) m) 0 0 ⟨d.fTag,[],1,1,[]⟩=(0,1):=by
    unfold xO
    simp[tU,h1,bJ]
   rw[hi];rfl
  rw[hk,P7 oS]
  have hd:ru [] (Cd 8 [(⟨d.fTag,[],1,1,[]⟩:Sl)])=false:=rfl
  rw[hd,P7 oS]
  have hc:Iy 8 [(⟨d.fTag,[],1,1,[]⟩:Sl)] (fun _=>false) false=false:=by
   show(Et (fun _=>false) false 0 [lK ⟨d.fTag,[],1,1,[]⟩]||ru [] [lK ⟨d.fTag,[],1,1,[]⟩]||Mm _ _ [⟨d.fTag,[],1,1,[]⟩])=false
   simp[Et,ru,Mm]
  rw[hc,P7 oS]
 ·rw[Qa h]
theorem Kj {s:aj} (h:Iv s=0):N8 s:=NV h
theorem LJ (d:Df) (s:aj) (hd:d.fTag.length<=MX) (hs:s.fTag.length<=MX):i6 d s=some (pF d s):=by
 unfold i6 vJ;dsimp only
 unfold pF
 by_cases h1:d.fTag=s.fTag
 ·rw[P7 (not_not_intro h1),PG h1,Nb [d] (fun x hx=>by rw[OP.1 hx];exact hd)]
  simp only[OS,OO,OA]
  by_cases h2:nW [d]=0
  ·rw[P7 (not_not_intro h2),PG h2,NU s hs]
   simp only[OS,OO,OA]
   by_cases h3:Iv s=0
   ·rw[P7 (not_not_intro h3),PG h3,LE d (GF (yU h2).2) s (Kj h3)];rfl
   ·rw[Qa h3,Ql h3];rfl
  ·rw[Qa h2,Ql h2];rfl
 ·rw[Qa h1,Ql h1];rfl
theorem LK (d:Df) (s:aj) (hd:d.fTag.length<=MX) (hs:s.fTag.length<=MX):rf d s=some (pF d s):=by
 unfold rf vH;dsimp only
 unfold pF
 by_cases h1:d.fTag=s.fTag
 ·have ha:re d=some (Es d):=by
   unfold re vG;dsimp only
   rfl
  have hsh:Ou (Es d):=⟨(show([97]:List UInt8).length<=MX by decide),(show([97]:List UInt8).length<=MX by decide),fun x hx=>by rw[OP.1 hx];exact hd,fun x hx=>by
   rw[OP.1 hx]
   exact .mk hd oS oS (fun a ha=>by cases ha)⟩
  rw[P7 (not_not_intro h1),PG h1,ha]
  simp only[OS,OO,OA]
  rw[CG _ hsh,Ki]
  simp only[OA]
  by_cases h2:nW [d]=0
  ·rw[P7 (not_not_intro h2),PG h2,Km [s] (fun x hx=>by rw[OP.1 hx];exact hs),Kn]
   simp only[OS,OO,OA]
   by_cases h3:Iv s=0
   ·rw[P7 (not_not_intro h3),PG h3,LI d (GF (yU h2).2) s (Kj h3)];rfl
   ·rw[Qa h3,Ql h3];rfl
  ·rw[Qa h2,Ql h2];rfl
 ·rw[Qa h1,Ql h1];rfl
theorem LL (l:List Fl) (hl:l.length<=1000000):bC l l=some true:=by
 unfold bC vE;dsimp only
 rw[PG rfl]
 refine Eq.trans (nh l (fun _=>true) false (fun i e he=> ?_) ?_) ?_
 ·have hi:=bI he
  simp only[bH hi,OL,av,he,OA,cG i oM]
  simp
 ·simp only[ar,OO];rfl
 ·simp
theorem M3 (d:Df) (s:aj):(pF d s).1.length<=1000000:=by
 unfold pF
 split
 ·simp
 split
 ·simp
 split
 ·simp
 rename_i h1 h2 h3
 have:=Du d (GF (yU (Classical.not_not.1 h2)).2) s
 simp only;omega
theorem It (d:Df) (s:aj) (hd:d.fTag.length<=MX) (hs:s.fTag.length<=MX):cj d s=some true:=by
 unfold cj vF;dsimp only
 rw[LK d s hd hs,LJ d s hd hs,OA,OA,LL _ (M3 d s),HH]
 simp only[OA,bP,Qh,Bool.and_self]
theorem GI (d:Df) (s:aj) (hd:nV d) (hs:rr s):cj d s=some true:=It d s hd.1 hs.1
end Go.Proofs.YteaolfcegaidpaaGreatDoor
