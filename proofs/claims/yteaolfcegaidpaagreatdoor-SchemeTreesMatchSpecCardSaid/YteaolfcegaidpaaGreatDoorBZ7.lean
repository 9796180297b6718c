/-
  Laws on the way to the theorem.
-/
import Derived.Test.YteaolfcegaidpaaGreatDoorBZ6
namespace Go.Proofs.YteaolfcegaidpaaGreatDoor
open Go.RowKit
set_option linter.unusedSimpArgs false
set_option linter.unusedVariables false
variable {d:Int} {l:List UInt8} {m y:Int}
theorem JE:∀ (l:List UInt8) (a:Nat),wg l->∃ n:Nat,Lib.decFrom a l=some n/\(n:Int)=cR a l
 |[],a,_=>⟨a,rfl,rfl⟩
 |b::l,a,h=>by
  have hb:=h b (Tl ..)
  obtain⟨n,k1,k2⟩:=JE l (a * 10+(b.toNat - 48)) fun c hc=>h c (Tz _ hc)
  refine⟨n, ?_, ?_⟩
  ·unfold Lib.decFrom Lib.digitVal
   rw[Ub hb];exact k1
  ·rw[k2]
   show cR _ l=cR _ l
   congr 1;omega
theorem LW (h1:l≠[]) (h2:l.length<=18) (E:wg l):lr l=some (cR 0 l):=by
 unfold lr
 rw[Ub h2]
 cases l with
 |nil=>exact absurd rfl h1
 |cons b r=>
  have hb:=E b (Tl ..)
  obtain⟨n,hn,hv⟩:=JE (b::r) 0 E
  have e1:(b==45)=false:=by rw[U7];rintro rfl;revert hb;decide
  have e2:(b==43)=false:=by rw[U7];rintro rfl;revert hb;decide
  have e3:Lib.decNat (b::r)=some n:=by unfold Lib.decNat;rw[Ul oS];exact hn
  simp only[Lib.atoi,e1,e2,e3,TL]
  rw[<-show cR 0 (b::r)=cR ((0:Nat):Int) (b::r) from rfl] at hv
  simp[hv]
def Fd (y:Int):Bool:=decide (y%4=0)&&(!decide (y%100=0)||decide (y%400=0))
def Gb (y m:Int):Int:=if m=2 then(if Fd y=true then 29 else 28) else if m=4\/m=6\/m=9\/m=11 then 30 else 31
def zJ (y m d:Int):Bool:=decide (1<=y)&&decide (y<=9999)&&decide (1<=m)&&decide (m<=12)&&decide (1<=d)&&decide (d<=Gb y m)
theorem CY (a b c:Int):ux a b c=some (decide (a<b)||decide (c<a)):=by
 unfold ux bC;dsimp only
 simp only[bR,SQ]
theorem Hj (a b c:Int):iw a b c=some (decide (b<=a)&&decide (a<=c)):=by
 unfold iw eB;dsimp only
 simp only[aY,SQ]
theorem PZ (h:0<=y):q0 y=some (Fd y):=by
 unfold q0 eA;dsimp only
 simp only[bR,aY,SQ,Int.tmod_eq_emod_of_nonneg h];rfl
theorem P0 (h:0<=y):iy y=some (Fd y):=by
 unfold iy eB;dsimp only
 simp only[bR,aY,SQ,Int.tmod_eq_emod_of_nonneg h]
 congr 1
 unfold Fd
 rw[Ti];simp;omega
theorem LX (h0:1<=m) (h1:m<=12):m=1\/m=2\/m=3\/m=4\/m=5\/m=6\/m=7\/m=8\/m=9\/m=10\/m=11\/m=12:=by omega
theorem PC (h:0<=y) (h0:1<=m) (h1:m<=12):q2 y m=some (Gb y m):=by
 unfold q2 xl;dsimp only
 rw[PZ h]
 rw[bp (m - 1) oM oM]
 unfold Gb
 cases hl:Fd y<;>rcases LX h0 h1 with rfl|rfl|rfl|rfl|rfl|rfl|rfl|rfl|rfl|rfl|rfl|rfl<;>rfl
theorem PD (h:0<=y) (h0:1<=m) (h1:m<=12):iA y m=some (Gb y m):=by
 unfold iA xq;dsimp only
 rw[P0 h]
 unfold Gb
 cases hl:Fd y<;>rcases LX h0 h1 with rfl|rfl|rfl|rfl|rfl|rfl|rfl|rfl|rfl|rfl|rfl|rfl<;>rfl
theorem BI {R:Type} {D:Int->Option Int} (Z:m<=12) (e:∀ i,1<=i->i<=12->∃ d,D i=some d) (k:Int->R) (a:Int) {r:Option R} (hr:r=(bJ (fun s:Int×Int=>bif decide (s.snd<m) then(D s.snd).bind fun x=>some (Sum.inl (IntKind.i64.wrap (s.fst+x),IntKind.i64.wrap (s.snd+1))) else cb (some (Sum.inl (s.fst,s.snd)))) (a,1)).bind (bX fun s=>some (k s.fst))):∃ z,r=some (k z):=by
 rw[hr]
 have:=lu (R:=R) (X:=Int×Nat) (C:=fun c=>∃ z,c=k z) (f:=fun s:Int×Int=>bif decide (s.snd<m) then(D s.snd).bind fun x=>some (Sum.inl (IntKind.i64.wrap (s.fst+x),IntKind.i64.wrap (s.snd+1))) else cb (some (Sum.inl (s.fst,s.snd)))) (k:=bX fun s=>some (k s.fst))
  (fun s=>(s.1,(s.2:Int))) (fun s=>12 - s.2) (fun s=>1<=s.2) (by
   rintro⟨b,i⟩ hi
   simp only at hi⊢
   by_cases hc:(i:Int)<m
   ·obtain⟨d,hd⟩:=e i oM oM
    refine .inl ⟨(IntKind.i64.wrap (b+d),i+1),by simp only;omega,by simp only;omega, ?_⟩
    simp only[TG hc,SZ,hd,SQ,bQ i oM]
   ·exact .inr ⟨_,k b,by rw[TW hc];rfl,rfl,b,rfl⟩) (a,1) oS
 obtain⟨c,hc,z,rfl⟩:=this
 exact⟨z,hc⟩
theorem N_ (hy:0<=y):∃ n,n5 y m d=some (n,zJ y m d):=by
 unfold n5 xm;dsimp only
 simp only[CY,SQ,bR]
 have a:(decide (y<1)||decide (9999<y)||(decide (m<1)||decide (12<m)))= !(decide (1<=y)&&decide (y<=9999)&&decide (1<=m)&&decide (m<=12)):=by
  rw[Ti];simp;omega
 rw[a]
 unfold zJ
 cases hq:(decide (1<=y)&&decide (y<=9999)&&decide (1<=m)&&decide (m<=12)) with
 |false=>exact⟨_,rfl⟩
 |true=>
  simp only[SR,SU] at hq
  obtain⟨⟨⟨N,H⟩,q3⟩,q4⟩:=hq
  rw[PC hy q3 q4]
  simp only[S7,SQ,DY,S2,S8]
  have hd:(decide (d<1)||decide (Gb y m<d))= !(decide (1<=d)&&decide (d<=Gb y m)):=by
   rw[Ti];simp<;>omega
  rw[hd]
  cases(decide (1<=d)&&decide (d<=Gb y m)) with
  |false=>exact⟨_,rfl⟩
  |true=>
   simp only[S7,S2]
   have hb:∃ b,q1 y=some b:=by unfold q1 eA;dsimp only;exact⟨_,rfl⟩
   obtain⟨b,hb⟩:=hb
   rw[hb]
   exact BI (k:=fun z=>(z,true)) q4 (fun i h0 h1=>⟨_,PC hy h0 h1⟩) _ rfl
theorem Oa (hy:0<=y\/y= -1):∃ n e,fC y m d=some (n,e)/\decide (e=0)=zJ y m d:=by
 unfold fC xt;dsimp only
 simp only[Hj,SQ,bR]
 unfold zJ
 have a:(!(decide (1<=y)&&decide (y<=9999))|| !(decide (1<=m)&&decide (m<=12)))= !(decide (1<=y)&&decide (y<=9999)&&decide (1<=m)&&decide (m<=12)):=by
  cases decide (1<=y)<;>cases decide (y<=9999)<;>cases decide (1<=m)<;>cases decide (m<=12)<;>rfl
 rw[a]
 cases hq:(decide (1<=y)&&decide (y<=9999)&&decide (1<=m)&&decide (m<=12)) with
 |false=>exact⟨_,_,rfl,rfl⟩
 |true=>
  simp only[SR,SU] at hq
  obtain⟨⟨⟨N,H⟩,q3⟩,q4⟩:=hq
  rw[PD oM q3 q4]
  simp only[S7,SQ,DY,S2,S8]
  cases(decide (1<=d)&&decide (d<=Gb y m)) with
  |false=>exact⟨_,_,rfl,rfl⟩
  |true=>
   simp only[S7,S2]
   have hb:∃ b,iz y=some b:=by unfold iz eB;dsimp only;exact⟨_,rfl⟩
   obtain⟨b,hb⟩:=hb
   have hd:∃ z,i_ y m d=some z:=by
    unfold i_ xr;dsimp only
    rw[hb]
    exact BI (k:=fun z=>z) q4 (fun i h0 h1=>⟨_,PD oM h0 h1⟩) _ rfl
   obtain⟨z,hz⟩:=hd
   rw[hz];exact⟨_,_,rfl,rfl⟩
def EI (s:List UInt8):Bool:=decide (s.length=8)&&s.all iq&&zJ (cR 0 (s.take 4)) (cR 0 ((s.drop 4).take 2)) (cR 0 ((s.drop 4).drop 2))
theorem kP (n:Nat):l.all iq=((l.take n).all iq&&(l.drop n).all iq):=by
 conv=>lhs;rw[<-Tf n l]
 rw[List.all_append]
theorem jE (h:l≠[]):pK l=l.all iq:=by simp[pK,h]
theorem Rh (l:List UInt8) (n:Nat) (h:n<=l.length):dP l ((none:Option Int).getD 0) ((some (n:Int)).getD (l.length:Int))=some (l.take n):=by
 simp only[T8,TI,dP]
 rw[Ub ⟨T1 _,by omega,by omega⟩];simp
theorem LY (l:List UInt8) (n:Nat) (h:n<=l.length):dP l ((some (n:Int)).getD 0) ((none:Option Int).getD (l.length:Int))=some (l.drop n):=by
 simp only[T8,TI,dP]
 rw[Ub ⟨by omega,by omega,T1 _⟩];simp
theorem Ob (s:List UInt8) (hs:s.length<=1000):∃ n,sm s [4,2,2]=some (n,decide (s.length=8)&&s.all iq)/\((decide (s.length=8)&&s.all iq)=true->n=[cR 0 (s.take 4),cR 0 ((s.drop 4).take 2),cR 0 ((s.drop 4).drop 2)]):=by
 unfold sm eA;dsimp only
 have step:∀ (t:List UInt8) (o:List Int) (i n:Nat),t.length<=1000->o.length<=10->i<3->1<=n->n<=4->([4,2,2]:List Int)[i]?=some (n:Int)->
   (bif decide ((i:Int)<(([4,2,2]:List Int).length:Int)) then(cm ([4,2,2]:List Int) (i:Int)).bind fun e=>(DY (decide (((t.length:Nat):Int)<e)) ((dP t ((none:Option Int).getD 0) ((some e).getD ((t.length:Nat):Int))).bind fun e=>(n3 e).bind fun x=>some !x)).bind fun v=>bif v then cb (cb (some (([]:List Int),false))) else(dP t ((none:Option Int).getD 0) ((some e).getD ((t.length:Nat):Int))).bind fun F=>(lr F).bind fun x=>iZ (sf (o.length+[x].length)) ((dP t ((some e).getD 0) ((none:Option Int).getD ((t.length:Nat):Int))).bind fun e=>some (Sum.inl (e,o++[x],IntKind.i64.wrap ((i:Int)+1)))) else cb (some (Sum.inl (t,o,(i:Int)))):Option ((List UInt8×List Int×Int)⊕((List UInt8×List Int×Int)⊕(List Int×Bool))))=
   if n<=t.length/\(t.take n).all iq=true then some (.inl (t.drop n,o++[cR 0 (t.take n)],((i+1:Nat):Int))) else some (.inr (.inr ([],false))):=by
  intro t o i n Y ho hi h1 h4 hn
  have hd:decide ((i:Int)<(([4,2,2]:List Int).length:Int))=true:=by simp;omega
  simp only[hd,SZ,ap,hn,SQ]
  by_cases h9:n<=t.length
  ·have e1:decide (((t.length:Nat):Int)<(n:Int))=false:=by simp;omega
   have A:t.take n≠[]:=by intro e;have:=congrArg List.length e;rw[Tc,TN] at this;omega
   have g:(t.take n).length=n:=by rw[Tc];omega
   simp only[e1,DY,S2,Rh t n h9,LY t n h9,SQ]
   rw[zI _ oM,jE A]
   cases ha:(t.take n).all iq with
   |false=>rw[Ul oS];rfl
   |true=>
    rw[Ub ⟨h9,rfl⟩]
    simp only[SQ,S7,S2]
    rw[LW A oM (nf (by rw[jE A];exact ha))]
    simp only[SQ,bQ i oM]
    exact dc oT
  ·have e1:decide (((t.length:Nat):Int)<(n:Int))=true:=by simp;omega
   rw[Ul oM,e1];rfl
 have B:∀ (q:Option (List Int×Bool)) (b:Bool),b=(decide (s.length=8)&&s.all iq)->(∃ n,q=some (n,b)/\(b=true->n=[cR 0 (s.take 4),cR 0 ((s.drop 4).take 2),cR 0 ((s.drop 4).drop 2)]))->∃ n,q=some (n,decide (s.length=8)&&s.all iq)/\((decide (s.length=8)&&s.all iq)=true->n=[cR 0 (s.take 4),cR 0 ((s.drop 4).take 2),cR 0 ((s.drop 4).drop 2)]):=by
  rintro q b rfl h;exact h
 have p:=step s [] 0 4 hs oS oM oM oM rfl
 rw[bV]
 rw[show((0:Nat):Int)=0 from rfl] at p
 simp only
 rw[p]
 by_cases c1:4<=s.length/\(s.take 4).all iq=true
 ·rw[Ub c1]
  simp only
  have s2:=step (s.drop 4) ([]++[cR 0 (s.take 4)]) 1 2 oT oS oM oM oM rfl
  rw[bV]
  simp only
  rw[show((0+1:Nat):Int)=((1:Nat):Int) from rfl,s2]
  by_cases z:2<=(s.drop 4).length/\((s.drop 4).take 2).all iq=true
  ·rw[Ub z]
   simp only
   have s3:=step ((s.drop 4).drop 2) ([]++[cR 0 (s.take 4)]++[cR 0 ((s.drop 4).take 2)]) 2 2 oT oS oM oM oM rfl
   rw[bV]
   simp only
   rw[show((1+1:Nat):Int)=((2:Nat):Int) from rfl,s3]
   by_cases u:2<=((s.drop 4).drop 2).length/\(((s.drop 4).drop 2).take 2).all iq=true
   ·rw[Ub u]
    simp only
    rw[bV]
    have hd:decide (((2+1:Nat):Int)<(([4,2,2]:List Int).length:Int))=false:=by decide
    simp only[hd,S2,cb,TL,SQ,bX]
    have l2:(s.drop 4).length=s.length - 4:=by simp
    have c:((s.drop 4).drop 2).length=s.length - 4 - 2:=by rw[TH,TH]
    have a:(((s.drop 4).drop 2).drop 2).length=s.length - 4 - 2 - 2:=by rw[TH,TH,TH]
    refine B _ (decide ((((s.drop 4).drop 2).drop 2)=[])) ?_ ⟨_,rfl,fun hh=> ?_⟩
    ·rw[kP (l:=s) 4,c1.2,kP (l:=s.drop 4) 2,z.2,kP (l:=(s.drop 4).drop 2) 2,u.2]
     by_cases J:(((s.drop 4).drop 2).drop 2)=[]
     ·have:=congrArg List.length J
      rw[a,TN] at this
      rw[J]
      simp;omega
     ·have hl:¬ s.length=8:=fun e=>J (Te.1 oM)
      rw[TW J,TW hl];rfl
    ·have J:=of_decide_eq_true hh
     have:=congrArg List.length J
     rw[a,TN] at this
     rw[Tr (l:=(s.drop 4).drop 2) oM];rfl
   ·rw[Ul u]
    refine B _ false ?_ ⟨_,rfl,fun hh=>by cases hh⟩
    symm
    rw[TM]
    intro hh
    simp only[SR,SU] at hh
    refine u ⟨by simp;omega, ?_⟩
    have k1:=hh.2
    rw[kP (l:=s) 4,kP (l:=s.drop 4) 2,kP (l:=(s.drop 4).drop 2) 2] at k1
    simp only[SR] at k1
    exact k1.2.2.1
  ·rw[Ul z]
   refine B _ false ?_ ⟨_,rfl,fun hh=>by cases hh⟩
   symm
   rw[TM]
   intro hh
   simp only[SR,SU] at hh
   refine z ⟨by simp;omega, ?_⟩
   have k1:=hh.2
   rw[kP (l:=s) 4,kP (l:=s.drop 4) 2] at k1
   simp only[SR] at k1
   exact k1.2.1
 ·rw[Ul c1]
  refine B _ false ?_ ⟨_,rfl,fun hh=>by cases hh⟩
  symm
  rw[TM]
  intro hh
  simp only[SR,SU] at hh
  refine c1 ⟨by omega, ?_⟩
  have k1:=hh.2
  rw[kP (l:=s) 4] at k1
  simp only[SR] at k1
  exact k1.1
theorem KG (s:List UInt8) (hs:s.length<=1000):∃ d e,pb s 1 1=some (d,e)/\decide (e=0)=EI s:=by
 obtain⟨n,hn,hv⟩:=Ob s hs
 have hr:∃ z,pa s 1 1=some (z,EI s):=by
  unfold pa xo;dsimp only
  rw[show decide ((1:Int)=1)=true from rfl]
  simp only[SZ]
  rw[hn]
  unfold EI
  cases hc:(decide (s.length=8)&&s.all iq) with
  |false=>exact⟨_,rfl⟩
  |true=>
   rw[hv hc]
   have i:wg s:=fun c V=>by
    simp only[SR,Tp] at hc
    simpa[iq] using hc.2 c V
   obtain⟨z,hz⟩:=N_ (m:=cR 0 ((s.drop 4).take 2)) (d:=cR 0 ((s.drop 4).drop 2)) (CU (i.take 4) (T1 _))
   refine⟨z, ?_⟩
   show(n5 _ _ _).bind _=_
   rw[hz];rfl
 obtain⟨z,hz⟩:=hr
 have hf:qZ 1=some true:=by
  unfold qZ eA;dsimp only
  rw[CY];rfl
 unfold pb xp;dsimp only
 rw[hf,CY,hz]
 simp only[SQ]
 cases EI s<;>exact⟨_,_,rfl,rfl⟩
theorem CZ (l:List UInt8) (h1:l.length<=14):ix l=some (if pK l=true then cR 0 l else -1):=by
 unfold ix eB;dsimp only
 rw[CW l oM]
 cases hd:pK l with
 |false=>rfl
 |true=>
  have hb:∀ (l:List UInt8) (n:Int),wg l->0<=n->cR n l<(n+1) * 10^l.length:=by
   intro l
   induction l with
   |nil=>intro n _ _;simp[cR];omega
   |cons c l ih=>
    intro n h h0
    have hc:=h c (Tl ..)
    have:=ih (10 * n+((c.toNat:Int) - 48)) (fun x hx=>h x (Tz _ hx)) oM
    refine Int.lt_of_lt_of_le this ?_
    rw[S6,U_,Int.mul_comm (10^l.length) 10,<-Int.mul_assoc]
    exact Int.mul_le_mul_of_nonneg_right oM (Int.pow_nonneg oM)
  have h9:=hb l 0 (nf hd) (T1 _)
  have hp:(10:Int)^l.length<=10^14:=by
   have:=Nat.pow_le_pow_right (show 0<10 by omega) h1
   exact_mod_cast this
  obtain⟨r,hr,hv⟩:=CX l (nf hd) oM
  have hv:=hv oM
  subst hv
  simp only[SQ,S7,S2,hr,T6]
theorem KH (s:List UInt8) (hs:s.length<=1000):∃ d e,hD s 1 1=some (d,e)/\decide (e=0)=EI s:=by
 unfold hD xu;dsimp only
 simp only[Hj,SQ]
 have M:(decide ((1:Int)<=1)&&decide ((1:Int)<=5))=true:=rfl
 have a2:(decide ((1:Int)<=1)&&decide ((1:Int)<=9900))=true:=rfl
 have a3:decide ((1:Int)=1)=true:=rfl
 have a4:decide ((1:Int)=2)=false:=rfl
 have a5:decide ((1:Int)=3)=false:=rfl
 have a:decide ((1:Int)=4)=false:=rfl
 have b:decide ((1:Int)=5)=false:=rfl
 simp only[M,a2,a3,a4,a5,a,b,S7,S2,hY,SZ,SQ]
 have B:∀ y m d:Int,(0<=y\/y= -1)->zJ y m d=EI s->∃ z e,((fC y m d).bind fun x=>bif !decide (x.snd=0) then some ((0:Int),(10:Int)) else some (x.fst,0))=some (z,e)/\decide (e=0)=EI s:=by
  intro y m d hy hq
  obtain⟨n,e,k1,k2⟩:=Oa (m:=m) (d:=d) hy
  rw[k1,<-hq,<-k2]
  simp only[SQ]
  cases decide (e=0)<;>exact⟨_,_,rfl,rfl⟩
 by_cases h8:s.length=8
 ·have f:decide (((s.length:Nat):Int)=8)=true:=by simp;omega
  simp only[f,SZ]
  have i:dP s ((none:Option Int).getD 0) ((some (4:Int)).getD ((s.length:Nat):Int))=some (s.take 4):=Rh s 4 oM
  have t2:dP s ((some (4:Int)).getD 0) ((some (6:Int)).getD ((s.length:Nat):Int))=some ((s.drop 4).take 2):=by
   simp only[TI,dP]
   rw[Ub ⟨by omega,by omega,by omega⟩]
   simp[List.take_drop]
  have t3:dP s ((some (6:Int)).getD 0) ((none:Option Int).getD ((s.length:Nat):Int))=some ((s.drop 4).drop 2):=by
   rw[Ua];exact LY s 6 oM
  simp only[i,t2,t3,SQ]
  have Y:(s.take 4).length=4:=by simp;omega
  have l2:((s.drop 4).take 2).length=2:=by simp;omega
  have c:((s.drop 4).drop 2).length=2:=by simp;omega
  have U:s.take 4≠[]:=fun e=>by rw[e] at Y;simp at Y
  have n2:(s.drop 4).take 2≠[]:=fun e=>by rw[e] at l2;simp at l2
  have C:(s.drop 4).drop 2≠[]:=fun e=>by rw[e] at c;simp at c
  rw[CZ _ oM,CZ _ oM,CZ _ oM,jE U,jE n2,jE C]
  simp only[SQ]
  have R:s.all iq=((s.take 4).all iq&&(((s.drop 4).take 2).all iq&&((s.drop 4).drop 2).all iq)):=by rw[kP (l:=s) 4,kP (l:=s.drop 4) 2]
  refine B _ _ _ ?_ ?_
  ·split
   ·rename_i h
    exact .inl (CU (nf (by rw[jE U];exact h)) (T1 _))
   ·exact .inr rfl
  ·unfold EI
   rw[R,TG h8,S8]
   cases h1:(s.take 4).all iq with
   |false=>simp[zJ]
   |true=>
    cases h2:((s.drop 4).take 2).all iq with
    |false=>simp[zJ]
    |true=>
     cases E:((s.drop 4).drop 2).all iq with
     |false=>simp[zJ]
     |true=>simp
 ·have f:decide (((s.length:Nat):Int)=8)=false:=by simp;omega
  simp only[f,S2,SQ]
  refine B (-1) (-1) (-1) (.inr rfl) ?_
  unfold EI
  rw[TW h8];rfl
variable {i:Nat} {s:List UInt8} {α:Type}
def qP {α:Type} (st:Option α->α->Int):Option α->List α->Int
 |_,[]=>0
 |p,x::l=>if st p x=0 then qP st (some x) l else st p x
def oZ (l:List α) (i:Nat):Option α:=if i=0 then none else l[i - 1]?
theorem lw {A:Type} (l:List α) (st:Option α->α->Int) (ret:Int->A) {f:Int->Option (Int⊕(Int⊕A))} {K:Int->Option A} (hb:∀ (i:Nat) (e:α),l[i]?=some e->f (i:Int)=if st (oZ l i) e=0 then some (.inl ((i+1:Nat):Int)) else some (.inr (.inr (ret (st (oZ l i) e))))) (J:f (l.length:Int)=some (.inr (.inl (l.length:Int)))):
  (bJ f 0).bind (bX K)=if qP st none l=0 then K (l.length:Int) else some (ret (qP st none l)):=by
 refine mI (X:=Nat) (fun i=>((i:Nat):Int)) (fun i=>l.length - i) (fun i=>i<=l.length/\qP st none l=qP st (oZ l i) (l.drop i)) ?_ 0 ⟨To _,rfl⟩
 rintro i ⟨h1,h2⟩
 rcases Th i l.length with hi|hi
 ·obtain⟨e,hx⟩:=dY hi
  have hd:l.drop i=e::l.drop (i+1):=by
   rw[Uf hi]
   rw[S3 hi] at hx
   simp only[SN] at hx;rw[hx]
  rw[hd] at h2
  simp only[qP] at h2
  by_cases hs:st (oZ l i) e=0
  ·rw[Ub hs] at h2
   refine .inl ⟨i+1,⟨hi, ?_⟩,by omega,by rw[hb i e hx,Ub hs]⟩
   rw[h2]
   have:oZ l (i+1)=some e:=by unfold oZ;rw[Ul oM];simpa using hx
   rw[this]
  ·rw[Ul hs] at h2
   refine .inr ⟨_,by rw[hb i e hx,Ul hs], ?_⟩
   rw[h2,Ul hs];rfl
 ·have hl:i=l.length:=by omega
  subst hl
  rw[Uo] at h2
  have h2:qP st none l=0:=h2
  exact .inr ⟨_,J,by rw[h2,Ub rfl];rfl⟩
theorem AB {α:Type} {st:Option α->α->Int}:∀ {l:List α} {p:Option α},qP st p l=0->∀ x∈l,∃ q,st q x=0
 |[],_,_,x,hx=>by cases hx
 |y::l,p,h,x,hx=>by
  unfold qP at h
  by_cases hs:st p y=0
  ·rw[Ub hs] at h
   rcases S9.1 hx with rfl|hx
   ·exact⟨p,hs⟩
   ·exact AB h x hx
  ·rw[Ul hs] at h;exact absurd h hs
def lx (c:UInt8):Bool:=(decide (65<=c.toNat)&&decide (c.toNat<=90))||(decide (97<=c.toNat)&&decide (c.toNat<=122))||decide (c.toNat=32)
def tx (k:Int) (s:List UInt8):Bool:=if k=4 then IF s else if k=5 then EI s else if k=2 then s.all lx else if k=3 then s.all iq else true
def Nw (d:aM) (s:List UInt8):Bool:=decide (1<=s.length/\s.length<=20)&&decide (d.fMin<=(s.length:Int)/\(s.length:Int)<=d.fMax)&&tx d.fType s&&s.all (qR 33 126)
def SG (a b:List UInt8):Bool:=Op.bytesLess a b||decide (a=b)
def El (p:Option (List UInt8)) (s:List UInt8):Bool:=match p with|some q=>SG s q|none=>false
def yd (d:aM) (p:Option (List UInt8)) (s:List UInt8):Int:=if Nw d s=true then(if El p s=true then 8 else 0) else 3
def yZ (d:aM):Int:=
 if¬ (1<=d.fType/\d.fType<=5) then 4
 else if¬ (1<=d.fMin/\d.fMin<=d.fMax)\/1000<d.fMax then 1
 else if d.fType=5/\(8<d.fMin\/d.fMax<8) then 3
 else if 50<d.fCodes.length then 2
 else qP (yd d) none d.fCodes
def Ci (e:ay):Int:=
 if¬ (1<=e.fMost/\e.fMost<=20) then 1
 else if e.fParts=[] then 9
 else if 20<e.fParts.length then 2
 else qP (fun _ p=>yZ p) none e.fParts
def Ju (d:Df):Int:=if 50<d.fElements.length then 2 else qP (fun _ e=>Ci e) none d.fElements
def Em (p:Option Df) (d:Df):Int:=if CG d.fTag=false then 5 else if El (p.map (·.fTag)) d.fTag=true then 8 else Ju d
def vc (l:List Df):Int:=if 100<l.length then 2 else qP Em none l
theorem vd (a b c:Int):iB a b c=some (decide (b<=a)&&decide (a<=c)):=by
 unfold iB h_;dsimp only
 simp only[aY,SQ]
theorem Nx (s:List UInt8) (k:Int) (hs:s.length<=1000):jL s k=some (if k=1 then s.all (qR 32 126) else tx k s):=by
 unfold jL h_;dsimp only
 unfold tx
 by_cases k4:k=4
 ·subst k4
  obtain⟨d,e,h1,h2⟩:=IH s oM
  rw[h1];simp[h2]
 by_cases k5:k=5
 ·subst k5
  obtain⟨d,e,h1,h2⟩:=KH s oM
  rw[h1];simp[h2]
 rw[TW k4,TW k5]
 simp only[S2,k4,k5,Tv]
 have key:=py s (fun c=>(!decide (k=1)||qR 32 126 c)&&(!decide (k=2)||lx c)&&(!decide (k=3)||iq c)) false (f:=fun i:Int=>bif decide (i<(s.length:Int)) then(cm s i).bind fun e=>(hY (decide (k=1)) ((DY (decide ((e.toNat:Int)<32)) (some (decide (126<(e.toNat:Int))))).bind fun v=>some v)).bind fun v=>bif v then cb (cb (some false)) else(hY (decide (k=2)) ((hY (decide (65<=(e.toNat:Int))) (some (decide ((e.toNat:Int)<=90)))).bind fun v=>(DY v ((hY (decide (97<=(e.toNat:Int))) (some (decide ((e.toNat:Int)<=122)))).bind fun v=>some v)).bind fun v=>(DY v (some (decide ((e.toNat:Int)=32)))).bind fun v=>some !v)).bind fun v=>bif v then cb (cb (some false)) else(hY (decide (k=3)) ((DY (decide ((e.toNat:Int)<48)) (some (decide (57<(e.toNat:Int))))).bind fun v=>some v)).bind fun v=>bif v then cb (cb (some false)) else some (Sum.inl (IntKind.i64.wrap (i+1))) else cb (some (Sum.inl i))) (K:=fun _=>some true) (fun i e J=>by
   have hi:=bM J
   have M:(decide ((e.toNat:Int)<32)||decide (126<(e.toNat:Int)))= !qR 32 126 e:=by
    unfold qR;rw[Ti];simp<;>omega
   have a2:(decide (65<=(e.toNat:Int))&&decide ((e.toNat:Int)<=90)||decide (97<=(e.toNat:Int))&&decide ((e.toNat:Int)<=122)||decide ((e.toNat:Int)=32))=lx e:=by
    unfold lx;rw[Ti];simp<;>omega
   have a3:(decide ((e.toNat:Int)<48)||decide (57<(e.toNat:Int)))= !iq e:=by
    unfold iq;rw[Ti];simp<;>omega
   simp only[bg hi,SZ,ap,J,SQ,bR,aY,bQ i oM,M,a2,a3]
   cases decide (k=1)<;>cases decide (k=2)<;>cases decide (k=3)<;>cases qR 32 126 e<;>cases lx e<;>cases iq e<;>rfl) (by simp only[ao,S2];rfl)
 rw[key]
 by_cases k1:k=1
 ·subst k1
  have:s.all (fun c=>(!decide ((1:Int)=1)||qR 32 126 c)&&(!decide ((1:Int)=2)||lx c)&&(!decide ((1:Int)=3)||iq c))=s.all (qR 32 126):=by
   congr 1;funext c;cases qR 32 126 c<;>rfl
  rw[this,Ub rfl]
  cases s.all (qR 32 126)<;>rfl
 ·by_cases k2:k=2
  ·subst k2
   have:s.all (fun c=>(!decide ((2:Int)=1)||qR 32 126 c)&&(!decide ((2:Int)=2)||lx c)&&(!decide ((2:Int)=3)||iq c))=s.all lx:=by
    congr 1;funext c;cases lx c<;>rfl
   rw[this,Ul k1,Ub rfl]
   cases s.all lx<;>rfl
  ·by_cases k3:k=3
   ·subst k3
    have:s.all (fun c=>(!decide ((3:Int)=1)||qR 32 126 c)&&(!decide ((3:Int)=2)||lx c)&&(!decide ((3:Int)=3)||iq c))=s.all iq:=by
     first|rfl|(congr 1;funext c;cases iq c<;>rfl)
    rw[this,Ul k1,Ul k2,Ub rfl]
    cases s.all iq<;>rfl
   ·have:s.all (fun c=>(!decide (k=1)||qR 32 126 c)&&(!decide (k=2)||lx c)&&(!decide (k=3)||iq c))=true:=by
     rw[Tp];intro c _;simp[k1,k2,k3]
    rw[this,Ul k1,Ul k2,Ul k3];rfl
theorem Ny (h:s.all (qR 33 126)=true):s.all (qR 32 126)=true:=by
 rw[Tp] at h⊢
 intro c hc
 have:=h c hc
 simp only[qR,SR,SU] at this⊢
 exact⟨TT oD this.1,this.2⟩
theorem Il {l:List α} {e:α} (J:l[i]?=some e) (h0:0<i):∃ p,l[i - 1]?=some p/\oZ l i=some p:=by
 obtain⟨p,hp⟩:=dY (l:=l) (i:=i - 1) (by have:=bM J;omega)
 exact⟨p,hp,by unfold oZ;rw[Ul oM,hp]⟩
theorem Im {l:List (List UInt8)} {e:List UInt8} (J:l[i]?=some e) (hl:l.length<=1000):
  hY (decide (0<(i:Int))) ((cm l (IntKind.i64.wrap ((i:Int) - 1))).bind fun F=>some (Op.bytesLess e F||decide (e=F)))=some (El (oZ l i) e):=by
 by_cases h0:0<i
 ·obtain⟨p,hp,hq⟩:=Il J h0
  have hi:=bM J
  have G:IntKind.i64.wrap ((i:Int) - 1)=((i - 1:Nat):Int):=by rw[bp _ oM oM];omega
  have hd:decide (0<(i:Int))=true:=by simpa using h0
  rw[G,ap,hp,hq,hd];rfl
 ·have hi:i=0:=by omega
  subst hi;rfl
theorem QP (d:aM) (hs:d.fCodes[i]?=some s) (hl:d.fCodes.length<=1000):f8 d (i:Int)=some (yd d (oZ d.fCodes i) s):=by
 unfold f8 xE;dsimp only
 rw[ap,hs]
 simp only[SQ,vd,bR]
 unfold yd Nw
 by_cases c1:1<=s.length/\s.length<=20
 ·by_cases z:d.fMin<=(s.length:Int)/\(s.length:Int)<=d.fMax
  ·have b1:(!(decide ((1:Int)<=((s.length:Nat):Int))&&decide (((s.length:Nat):Int)<=20))|| !(decide (d.fMin<=((s.length:Nat):Int))&&decide (((s.length:Nat):Int)<=d.fMax)))=false:=by simp;omega
   rw[b1,Nx s d.fType oM,TG c1,TG z]
   simp only[DY,S2,SQ,S8]
   have B:(bJ (fun i:Int=>bif decide (i<(s.length:Int)) then(cm s i).bind fun F=>(DY (decide ((F.toNat:Int)<33)) ((cm s i).bind fun e=>some (decide (126<(e.toNat:Int))))).bind fun v=>bif v then cb (cb (some (3:Int))) else some (Sum.inl (IntKind.i64.wrap (i+1))) else cb (some (Sum.inl i))) 0).bind (bX fun _=>(hY (decide (0<(i:Int))) ((cm d.fCodes (IntKind.i64.wrap ((i:Int) - 1))).bind fun F=>some (Op.bytesLess s F||decide (s=F)))).bind fun v=>bif v then some 8 else some 0)=some (if s.all (qR 33 126)=true then(if El (oZ d.fCodes i) s=true then 8 else 0) else 3):=by
    rw[Im hs hl]
    refine(py s (qR 33 126) (3:Int) (fun i e J=> ?_) ?_).trans ?_
    ·have h5:=bM J
     have h1:(decide ((e.toNat:Int)<33)||decide (126<(e.toNat:Int)))= !qR 33 126 e:=by
      unfold qR;rw[Ti];simp<;>omega
     simp only[bg h5,SZ,ap,J,SQ,bR,bQ i oM,h1]
     cases qR 33 126 e<;>rfl
    ·simp only[ao,S2];rfl
    ·cases s.all (qR 33 126)<;>cases El (oZ d.fCodes i) s<;>rfl
   by_cases k1:d.fType=1
   ·rw[Ub k1]
    have Y:tx d.fType s=true:=by unfold tx;rw[k1];rfl
    rw[Y,S8]
    cases ha:s.all (qR 32 126) with
    |true=>simp only[S7,S2];exact B
    |false=>
     have:s.all (qR 33 126)=false:=by
      cases h:s.all (qR 33 126) with
      |false=>rfl
      |true=>rw[Ny h] at ha;cases ha
     rw[this];rfl
   ·rw[Ul k1]
    cases tx d.fType s with
    |false=>rfl
    |true=>simp only[S7,S2,S8];exact B
  ·have b1:(!(decide ((1:Int)<=((s.length:Nat):Int))&&decide (((s.length:Nat):Int)<=20))|| !(decide (d.fMin<=((s.length:Nat):Int))&&decide (((s.length:Nat):Int)<=d.fMax)))=true:=by
    simp only[Tn,TR,TU,Ts];omega
   rw[b1,TW z];simp[DY]
 ·have b1:(!(decide ((1:Int)<=((s.length:Nat):Int))&&decide (((s.length:Nat):Int)<=20))|| !(decide (d.fMin<=((s.length:Nat):Int))&&decide (((s.length:Nat):Int)<=d.fMax)))=true:=by
   simp only[Tn,TR,TU,Ts];omega
  rw[b1,TW c1];simp[DY]
theorem QQ (d:aM):f9 d=some (yZ d):=by
 unfold f9 xH;dsimp only
 simp only[vd,SQ,bR,aY]
 unfold yZ
 by_cases c1:1<=d.fType/\d.fType<=5
 ·rw[show(decide (1<=d.fType)&&decide (d.fType<=5))=true by simp[c1],Ul (not_not_intro c1)]
  simp only[S7,S2]
  by_cases z:¬ (1<=d.fMin/\d.fMin<=d.fMax)\/1000<d.fMax
  ·rw[Ub z,show(!(decide (1<=d.fMin)&&decide (d.fMin<=d.fMax))||decide (1000<d.fMax))=true by simp only[Tn,TR,TU,Ts,SU];omega];rfl
  ·rw[Ul z,show(!(decide (1<=d.fMin)&&decide (d.fMin<=d.fMax))||decide (1000<d.fMax))=false by simp only[TF,Bool.not_eq_false',SR,Ts,SU];omega]
   simp only[S2]
   by_cases u:d.fType=5/\(8<d.fMin\/d.fMax<8)
   ·rw[Ub u,show(decide (d.fType=5)&&(decide (8<d.fMin)||decide (d.fMax<8)))=true by simp[u.1];exact u.2];rfl
   ·rw[Ul u,show(decide (d.fType=5)&&(decide (8<d.fMin)||decide (d.fMax<8)))=false by simp only[TU,Ts,TF];omega]
    simp only[S2]
    by_cases j:50<d.fCodes.length
    ·rw[Ub j,show decide (50<((d.fCodes.length:Nat):Int))=true by simp;omega];rfl
    ·rw[Ul j,show decide (50<((d.fCodes.length:Nat):Int))=false by simp;omega]
     simp only[S2]
     refine(lw d.fCodes (yd d) (fun n=>n) (fun i e J=> ?_) ?_).trans ?_
     ·have h5:=bM J
      simp only[bg h5,SZ,QP d J oM,SQ,bQ i oM]
      by_cases hz:yd d (oZ d.fCodes i) e=0
      ·rw[Ub hz,TG hz];rfl
      ·rw[Ul hz,TW hz];rfl
     ·simp only[ao,S2];rfl
     ·split
      ·rename_i h;rw[h]
      ·rfl
 ·rw[show(decide (1<=d.fType)&&decide (d.fType<=5))=false by simp only[TU,Ts];omega,Ub c1];rfl
theorem RU (d:Df):gI d=some (Ju d):=by
 unfold gI xI;dsimp only
 unfold Ju
 by_cases j:50<d.fElements.length
 ·rw[Ub j,show decide (50<((d.fElements.length:Nat):Int))=true by simp;omega];rfl
 ·rw[Ul j,show decide (50<((d.fElements.length:Nat):Int))=false by simp;omega]
  simp only[S2]
  refine(lw d.fElements (fun _ e=>Ci e) (fun n=>n) (fun i e J=> ?_) ?_).trans ?_
  ·have h5:=bM J
   simp only[bg h5,SZ,ap,J,SQ,vd,bQ i oM,Ij]
   unfold Ci
   by_cases o:1<=e.fMost/\e.fMost<=20
   ·rw[show(decide (1<=e.fMost)&&decide (e.fMost<=20))=true by simp[o]]
    simp only[S7,S2,o,and_self,not_true_eq_false,Tv]
    by_cases d2:e.fParts=[]
    ·simp only[d2,T6];rfl
    ·simp only[d2,Tv,Um,S2]
     by_cases f:20<e.fParts.length
     ·simp only[f,T6]
      rw[show decide (20<((e.fParts.length:Nat):Int))=true by simp;omega];rfl
     ·simp only[f,Tv]
      rw[show decide (20<((e.fParts.length:Nat):Int))=false by simp;omega]
      simp only[S2]
      refine(lw e.fParts (fun _ p=>yZ p) (fun n=> .inr (.inr n)) (fun i e J=> ?_) ?_).trans ?_
      ·have h5:=bM J
       simp only[bg h5,SZ,ap,J,SQ,QQ,bQ i oM]
       by_cases hz:yZ e=0
       ·simp only[hz,T6,Ue,S7,S2]
       ·simp only[hz,Tv,Um,Tw,SZ];rfl
      ·simp only[ao,S2];rfl
      ·rfl
   ·rw[show(decide (1<=e.fMost)&&decide (e.fMost<=20))=false by simp only[TU,Ts];omega]
    simp only[o,not_false_eq_true,T6];rfl
  ·simp only[ao,S2];rfl
  ·split
   ·rename_i h;rw[h]
   ·rfl
theorem F3 {l:List Df} {e:Df} (J:l[i]?=some e) (hl:l.length<=1000):
  hY (decide (0<(i:Int))) ((cm l (i:Int)).bind fun e=>(cm l (IntKind.i64.wrap ((i:Int) - 1))).bind fun F=>some (Op.bytesLess e.fTag F.fTag||decide (e.fTag=F.fTag)))=some (El ((oZ l i).map (·.fTag)) e.fTag):=by
 rw[ap,J]
 by_cases h0:0<i
 ·obtain⟨p,hp,hq⟩:=Il J h0
  have hi:=bM J
  have G:IntKind.i64.wrap ((i:Int) - 1)=((i - 1:Nat):Int):=by rw[bp _ oM oM];omega
  have hd:decide (0<(i:Int))=true:=by simpa using h0
  rw[G,ap,hp,hq,hd];rfl
 ·have hi:i=0:=by omega
  subst hi;rfl
theorem QR (l:List Df) (hl:∀ d∈l,d.fTag.length<=MX):f_ l=some (vc l):=by
 unfold f_ xJ;dsimp only
 unfold vc
 by_cases j:100<l.length
 ·rw[Ub j,show decide (100<((l.length:Nat):Int))=true by simp;omega];rfl
 ·rw[Ul j,show decide (100<((l.length:Nat):Int))=false by simp;omega]
  simp only[S2]
  refine(lw l Em (fun n=>n) (fun i e J=> ?_) ?_).trans ?_
  ·have h5:=bM J
   have Z:=ST J
   have hp:=F3 J oM
   simp only[bg h5,SZ]
   rw[hp]
   simp only[ap,J,SQ,Nh _ (hl e Z),RU,bQ i oM]
   unfold Em
   cases CG e.fTag with
   |false=>rfl
   |true=>
    simp only[S7,S2,Uc,Tv]
    cases El ((oZ l i).map (·.fTag)) e.fTag with
    |true=>rfl
    |false=>
     simp only[S2,Tj,Tv]
     by_cases hz:Ju e=0
     ·rw[Ub hz,TG hz];rfl
     ·rw[Ul hz,TW hz];rfl
  ·simp only[ao,S2];rfl
  ·split
   ·rename_i h;rw[h]
   ·rfl
def Eg (b:UInt8):Bool:=decide (97<=(b.toNat:Int))&&decide ((b.toNat:Int)<=122)
def wz (b:UInt8):Bool:=Eg b||(decide ((b.toNat:Int)=45)||(decide (48<=(b.toNat:Int))&&decide ((b.toNat:Int)<=57)))
def yu:List UInt8:=[97,98,99,100,101,102,103,104,105,106,107,108,109,110,111,112,113,114,115,116,117,118,119,120,121,122,48,49,50,51,52,53,54,55,56,57,45]
theorem Ll:(List.range 256).all (fun n=>yu.contains (UInt8.ofNat n)==wz (UInt8.ofNat n))=true:=by decide+kernel
theorem Ni (b:UInt8):yu.contains b=wz b:=by
 have:=Tp.1 Ll b.toNat (T7.2 b.toNat_lt)
 have hb:UInt8.ofNat b.toNat=b:=by simp
 rw[hb] at this
 simpa using this
theorem Lm (l:List UInt8):decide (Lib.trimS l yu=[])=l.all wz:=by
 rw[Ti,SU,Ef,Tp]
 simp only[Ni]
def ed:List UInt8->Bool
 |[]=>false
 |b::l=>decide (l.length<=39)&&Eg b&&l.all wz
theorem G3 (l:List UInt8) (hl:l.length<=MX):vW l=some (ed l):=by
 have Y:ep l yu=some (Lib.trimS l yu):=by
  unfold ep
  rw[Ub ⟨hl,by decide,by decide⟩]
 have hu:([97,98,99,100,101,102,103,104,105,106,107,108,109,110,111,112,113,114,115,116,117,118,119,120,121,122,48,49,50,51,52,53,54,55,56,57,45]:List UInt8)=yu:=rfl
 unfold vW bC;dsimp only
 rw[hu]
 cases l with
 |nil=>rfl
 |cons b l=>
  have hg:cm (b::l) 0=some b:=rfl
  simp only[hg,SQ,bR,Y,Lm,ed]
  have h1:decide (((b::l).length:Int)<1)=false:=by simp only[S6];apply TW;omega
  have h2:decide (40<((b::l).length:Int))= !decide (l.length<=39):=by simp only[S6];rw[Ti];simp<;>omega
  have E:(decide ((b.toNat:Int)<97)||decide (122<(b.toNat:Int)))= !Eg b:=by unfold Eg;rw[Ti];simp
  rw[h1,h2,Tx,Bool.or_assoc,E]
  cases hb:Eg b with
  |false=>simp
  |true=>cases decide (l.length<=39)<;>simp[wz,hb]
def Ax (i:Nat) (b:UInt8):Bool:=Eg b||(decide (i≠0)&&wz b)
theorem G4 (l:List UInt8) (hl:l.length<=MX):iG l=some (ed l):=by
 unfold MX at hl
 unfold iG bC;dsimp only
 generalize hf:(fun s:Int=>_)=f
 have key:=FW (f:=f) l (fun i (_:Unit)=>(i:Int)) (fun i _ e=>if Ax i e=true then some (.inl ()) else some (.inr (.inr false))) (fun _=>some (Sum.inl (l.length:Int))) (fun i e s J=>by
  subst hf
  have hi:=bM J
  simp only[bg hi,SZ,ap,J,SQ,aY,bR,bQ i oM]
  have h0:decide ((i:Int)=0)=decide (i=0):=by congr 1;apply propext;omega
  have h1:(!(decide (97<=(e.toNat:Int))&&decide ((e.toNat:Int)<=122))&&(decide ((i:Int)=0)||(!decide ((e.toNat:Int)=45)&& !(decide (48<=(e.toNat:Int))&&decide ((e.toNat:Int)<=57)))))= !Ax i e:=by
   rw[h0]
   unfold Ax wz Eg
   cases decide (97<=(e.toNat:Int))<;>cases decide ((e.toNat:Int)<=122)<;>by_cases v8:i=0<;>simp[v8]
  rw[h1]
  cases Ax i e<;>rfl) (fun s=>by
  subst hf
  simp only[ao,S2];rfl) ()
 rw[show((0:Nat):Int)=0 from rfl] at key
 rw[key]
 have h2:∀ (t:List UInt8) (i:Nat),0<i->Eh (fun i (_:Unit) e=>if Ax i e=true then some (.inl ()) else some (.inr (.inr false))) (fun _=>some (Sum.inl (l.length:Int))) t i ()=if t.all wz=true then some (.inl (l.length:Int)) else some (.inr false):=by
  intro t
  induction t with
  |nil=>intro i _;rfl
  |cons b t ih=>
   intro i hi
   simp only[Eh]
   have:Ax i b=wz b:=by
    unfold Ax
    rw[TG (show i≠0 by omega),S8]
    unfold wz
    cases Eg b<;>simp
   rw[this]
   cases hb:wz b with
   |true=>simp only[T6,ih (i+1) oM,Uy,hb,S8]
   |false=>simp[hb]
 cases l with
 |nil=>rfl
 |cons b l=>
  simp only[Eh]
  have E:Ax 0 b=Eg b:=by unfold Ax;cases Eg b<;>simp
  have h4:decide (((b::l).length:Int)<=40)=decide (l.length<=39):=by simp only[S6];rw[Ti];simp;omega
  rw[E]
  cases hb:Eg b with
  |false=>simp[bX,hb,ed]
  |true=>
   simp only[T6]
   rw[h2 l 1 oM]
   cases hl:l.all wz with
   |true=>simp[bX,hb,hl,ed,aY];try omega
   |false=>simp[bX,hb,hl,ed]
variable {D:List UInt8->Bool} {k:Nat} {l:List Sl} {x:Sl} {α:Type}
def BG {α S A:Type} (g:S->α->S⊕A) (B:S->A):List α->S->A
 |[],s=>B s
 |e::l,s=>match g s e with
  | .inl F=>BG g B l F
  | .inr a=>a
theorem AC {S T A:Type} (l:List α) (mk:Nat->S->T) (g:S->α->S⊕A) (B:S->A) (I:S->Prop) {f:T->Option (T⊕A)} (hb:∀ (i:Nat) (e:α) (s:S),l[i]?=some e->I s->f (mk i s)=some (match g s e with| .inl F=> .inl (mk (i+1) F)| .inr a=> .inr a)) (hi:∀ (e:α) (s F:S),e∈l->I s->g s e= .inl F->I F) (J:∀ s,I s->f (mk l.length s)=some (.inr (B s))) (s:S) (h0:I s):bJ f (mk 0 s)=some (BG g B l s):=by
 have:∀ (t:List α) (i:Nat) (s:S),l.drop i=t->i<=l.length->I s->bJ f (mk i s)=some (BG g B t s):=by
  intro t
  induction t with
  |nil=>
   intro i s hd r9 hs
   have:=rQ hd r9
   subst this
   rw[bV,J s hs]
   rfl
  |cons e t ih=>
   intro i s hd r9 hs
   obtain⟨h1,h2,E⟩:=yv hd
   rw[bV,hb i e s h1 hs]
   simp only[BG]
   cases hg:g s e with
   |inr a=>rfl
   |inl F=>exact ih (i+1) F E h2 (hi e s F (ST h1) hs hg)
 exact this l 0 s rfl (To _) h0
def ly {α:Type} (g:Int->α->Int×Int):List α->Int->Int×Int
 |[],many=>(0,many)
 |b::l,many=>if(g many b).1=0 then ly g l (g many b).2 else g many b
def wK (D:List UInt8->Bool) (f:List Sl->Int->Int×Int) (a many:Int) (x:Sl):Int×Int:=
 if 300<many+1\/6<a then(2,many+1)
 else if(oE x||qO x)=false then(3,many+1)
 else if x.fName≠[]/\ed x.fName=false then(5,many+1)
 else if x.fName=[]/\D x.fTag=false then(9,many+1)
 else if¬ (0<=x.fMin/\x.fMin<=x.fMax)\/¬ (1<=x.fMax/\x.fMax<=1000) then(1,many+1)
 else if x.fName=[] then(0,many+1)
 else f x.fItems (many+1)
def RW (D:List UInt8->Bool) (f:List Sl->Int->Int×Int) (a:Int) (l:List Sl) (many:Int):Int×Int:=
 if l=[] then(9,many) else if 50<l.length then(2,many) else ly (wK D f a) l many
def uf (D:List UInt8->Bool):Nat->List Sl->Int->Int->Int×Int
 |0,_,_,many=>(9,many)
 |k+1,l,a,many=>RW D (fun it m=>uf D k it (a+1) m) a l many
theorem Kh {α:Type} {g:Int->α->Int×Int} (hg:∀ many b,0<=many->(g many b).1=0->many<=(g many b).2/\(g many b).2<=300):∀ {l:List α} {many:Int},0<=many->many<=300->(ly g l many).1=0->many<=(ly g l many).2/\(ly g l many).2<=300
 |[],many,_,h1,_=>⟨T1 _,h1⟩
 |b::l,many,h0,h1,h=>by
  unfold ly at h⊢
  by_cases hb:(g many b).1=0
  ·rw[Ub hb] at h⊢
   obtain⟨k1,k2⟩:=hg many b h0 hb
   obtain⟨N,H⟩:=Kh hg oM k2 h
   exact⟨by omega,H⟩
  ·rw[Ul hb] at h;exact absurd h hb
structure Pe (D:List UInt8->Bool) (x:Sl):Prop where
 ok:Lw x
 name:x.fName≠[]->ed x.fName=true
 tag:x.fName=[]->D x.fTag=true
 min:0<=x.fMin/\x.fMin<=x.fMax
 max:1<=x.fMax/\x.fMax<=1000
theorem Ki {f:List Sl->Int->Int×Int} {a many:Int} (h:(wK D f a many x).1=0):
  many+1<=300/\a<=6/\Pe D x/\((x.fName=[]/\wK D f a many x=(0,many+1))\/(x.fName≠[]/\wK D f a many x=f x.fItems (many+1))):=by
 unfold wK at h⊢
 split at h
 ·cases h
 rename_i c1
 rw[Ul c1]
 split at h
 ·cases h
 rename_i z
 rw[Ul z]
 split at h
 ·cases h
 rename_i u
 rw[Ul u]
 split at h
 ·cases h
 rename_i j
 rw[Ul j]
 split at h
 ·cases h
 rename_i c
 rw[Ul c]
 have hI:Pe D x:=by
  refine⟨?_,fun hn=> ?_,fun hn=> ?_,by omega,by omega⟩
  ·have:(oE x||qO x)=true:=by
    cases hv:(oE x||qO x) with
    |true=>rfl
    |false=>exact absurd hv z
   exact(Tn _ _).mp this
  ·cases hv:ed x.fName with
   |true=>rfl
   |false=>exact absurd ⟨hn,hv⟩ u
  ·cases hv:D x.fTag with
   |true=>rfl
   |false=>exact absurd ⟨hn,hv⟩ j
 refine⟨by omega,by omega,hI, ?_⟩
 by_cases hn:x.fName=[]
 ·rw[Ub hn];exact .inl ⟨hn,rfl⟩
 ·rw[Ul hn];exact .inr ⟨hn,rfl⟩
theorem AD (D:List UInt8->Bool):∀ (k:Nat) {l:List Sl} {a many:Int},0<=many->many<=300->(uf D k l a many).1=0->many<=(uf D k l a many).2/\(uf D k l a many).2<=300
 |0,_,_,_,_,_,h=>by cases h
 |k+1,l,a,many,h0,h1,h=>by
  unfold uf RW at h⊢
  split at h
  ·cases h
  rename_i c1
  rw[Ul c1]
  split at h
  ·cases h
  rename_i z
  rw[Ul z]
  refine Kh (fun m x Z hx=> ?_) h0 h1 h
  obtain⟨N, -, -,q4⟩:=Ki hx
  rcases q4 with⟨_,q⟩|⟨_,q⟩
  ·rw[q];exact⟨by simp only;omega,by simp only;omega⟩
  ·rw[q] at hx⊢
   obtain⟨k1,k2⟩:=AD D k oM oM hx
   exact⟨by omega,k2⟩
def Io (D:List UInt8->Bool):Nat->List Sl->Prop
 |0,_=>False
 |k+1,l=>l≠[]/\l.length<=50/\∀ x∈l,Pe D x/\(x.fName≠[]->Io D k x.fItems)
def ye:Nat->List Sl->Nat
 |0,_=>0
 |k+1,l=>(l.map fun x=>if x.fName=[] then 1 else 1+ye k x.fItems).sum
theorem yf (D:List UInt8->Bool):∀ (k:Nat) (l:List Sl) (a many:Int),(uf D k l a many).1=0->Io D k l/\(uf D k l a many).2=many+ye k l
 |0,_,_,_,h=>by cases h
 |k+1,l,a,many,h=>by
  unfold uf RW at h⊢
  split at h
  ·cases h
  rename_i c1
  rw[Ul c1]
  split at h
  ·cases h
  rename_i z
  rw[Ul z]
  have key:∀ (l:List Sl) (many:Int),(ly (wK D (fun it m=>uf D k it (a+1) m) a) l many).1=0->(∀ x∈l,Pe D x/\(x.fName≠[]->Io D k x.fItems))/\(ly (wK D (fun it m=>uf D k it (a+1) m) a) l many).2=many+((l.map fun x=>if x.fName=[] then 1 else 1+ye k x.fItems).sum:Nat):=by
   intro l
   induction l with
   |nil=>intro many _;exact⟨(fun x hx=>by cases hx),by simp[ly]⟩
   |cons x l ih=>
    intro many h
    unfold ly at h⊢
    by_cases hb:(wK D (fun it m=>uf D k it (a+1) m) a many x).1=0
    ·rw[Ub hb] at h⊢
     obtain⟨-, -,q3,q4⟩:=Ki hb
     obtain⟨k1,k2⟩:=ih _ h
     have s:(x.fName≠[]->Io D k x.fItems)/\(wK D (fun it m=>uf D k it (a+1) m) a many x).2=many+((if x.fName=[] then 1 else 1+ye k x.fItems:Nat):Int):=by
      rcases q4 with⟨hn,q⟩|⟨hn,q⟩
      ·rw[q,Ub hn];exact⟨fun h=>absurd hn h,rfl⟩
      ·rw[q] at hb⊢
       obtain⟨d,C⟩:=yf D k x.fItems (a+1) (many+1) hb
       rw[Ul hn]
       exact⟨fun _=>d,by rw[C];omega⟩
     refine⟨fun y hy=> ?_, ?_⟩
     ·rcases S9.1 hy with rfl|hy
      ·exact⟨q3,s.1⟩
      ·exact k1 y hy
     ·rw[k2,s.2]
      simp only[S5,UH]
      omega
    ·rw[Ul hb] at h;exact absurd h hb
  obtain⟨k1,k2⟩:=key l many h
  exact⟨⟨c1,by omega,k1⟩,k2⟩
theorem Io.len (h:Io D k l):l.length<=50:=by
 cases k with
 |zero=>exact h.elim
 |succ k=>exact h.2.1
theorem Io.it (h:Io D k l) (hx:x∈l):Pe D x/\(x.fName≠[]->Io D (k - 1) x.fItems):=by
 cases k with
 |zero=>exact h.elim
 |succ k=>exact h.2.2 x hx
def zH (f:List Sl->List (List UInt8)) (x:Sl):List (List UInt8):=if x.fName=[] then[] else x.fName::f x.fItems
def wA:Nat->List Sl->List (List UInt8)
 |0,_=>[]
 |k+1,l=>l.flatMap (zH (wA k))
theorem Jv:∀ (k:Nat) (l:List Sl),(wA k l).length<=ye k l
 |0,_=>S0 _
 |k+1,l=>by
  unfold wA ye
  induction l with
  |nil=>simp
  |cons x l ih=>
   simp only[UV,SW,S5,UH]
   have h1:(zH (wA k) x).length<=if x.fName=[] then 1 else 1+ye k x.fItems:=by
    unfold zH
    split
    ·simp
    ·have:=Jv k x.fItems;simp;omega
   omega
def jp:List (List UInt8)->List (List UInt8)->Bool
 |_,[]=>false
 |seen,t::l=>seen.contains t||jp (seen++[t]) l
def En (S:List UInt8->Bool) (g:Bool):Nat->List (List UInt8)->Bool
 |_,[]=>false
 |i,t::l=>(!(g&&decide (i=0))&&S t)||En S g (i+1) l
def LS (f:List Sl->(List UInt8->Bool)->Bool) (S:List UInt8->Bool):List Sl->Bool
 |[]=>false
 |x::l=>(!decide (x.fName=[])&&f x.fItems (fun t=>S t||((x::l).map ec).contains t))||LS f S l
def EG:Nat->List Sl->(List UInt8->Bool)->Bool->Bool
 |0,_,_,_=>false
 |k+1,l,S,g=>En S g 0 (l.map ec)||jp [] (l.map ec)||LS (fun it n=>EG k it n true) S l
theorem nI {l:List α} {i:Nat} {e:α} (h:l[i]?=some e):l.drop i=e::l.drop (i+1):=by
 have hi:=bM h
 rw[Uf hi]
 rw[S3 hi] at h
 simp only[SN] at h;rw[h]
def N7 (t:List UInt8):Int:=if 1000<t.length then 2 else if t.all (qR 32 126)=true then 0 else 3
theorem QL (t:List UInt8):pw t=some (N7 t):=by
 unfold pw nD;dsimp only
 unfold N7
 by_cases h:1000<t.length
 ·rw[Ub h,TG oM];rfl
 ·rw[Ul h,TW oM,S2]
  unfold As nC;dsimp only
  rw[F_ t _ _ oM,TG (show(t.length:Int)<=1000 by omega)]
  have e:(UInt8.ofNat (Int.toNat 32),UInt8.ofNat (Int.toNat 126))=((32:UInt8),(126:UInt8)):=rfl
  simp only[SS] at e
  rw[e.1,e.2]
  simp only[SQ,aY,S8]
  by_cases hq:t.all (qR 32 126)=true
  ·rw[hq];rfl
  ·rw[Ul hq,TM.2 hq];rfl
theorem QM (t:List UInt8):gq t=some (N7 t):=by
 unfold gq nC;dsimp only
 unfold N7
 by_cases h:1000<t.length
 ·rw[Ub h,TG oM];rfl
 ·rw[Ul h,TW oM,S2]
  refine Eq.trans (py t (qR 32 126) 3 (fun i e J=> ?_) ?_) ?_
  ·have hi:=bM J
   simp only[bg hi,SZ,ap,J,SQ,bR,bQ i oM]
   have hb:(decide ((e.toNat:Int)<32)||decide (126<(e.toNat:Int)))= !qR 32 126 e:=by
    unfold qR
    have h1:((32:UInt8)).toNat=32:=rfl
    have h2:((126:UInt8)).toNat=126:=rfl
    rw[h1,h2,Ti];simp;omega
   rw[hb]
   by_cases hr:qR 32 126 e=true
   ·rw[hr];rfl
   ·rw[Ul hr,TM.2 hr];rfl
  ·simp only[ao,S2];rfl
  ·split<;>rfl
def qN {α:Type} (h:α->Int):List α->Int
 |[]=>0
 |e::l=>if h e=0 then qN h l else h e
theorem nd {α R:Type} (l:List α) (h:α->Int) (ret:Int->R) (k:Int->Option R) {f:Int->Option (Int⊕(Int⊕R))} (hb:∀ (i:Nat) (e:α),l[i]?=some e->f (i:Int)=if h e=0 then some (.inl ((i+1:Nat):Int)) else some (.inr (.inr (ret (h e))))) (J:f (l.length:Int)=some (.inr (.inl (l.length:Int)))):(bJ f 0).bind (bX k)=if qN h l=0 then k (l.length:Int) else some (ret (qN h l)):=by
 have:∀ (t:List α) (i:Nat),l.drop i=t->i<=l.length->bJ f (i:Int)=if qN h t=0 then some (.inl (l.length:Int)) else some (.inr (ret (qN h t))):=by
  intro t
  induction t with
  |nil=>
   intro i hd hi
   have:=rQ hd hi
   subst this
   rw[bV,J]
   rfl
  |cons e t ih=>
   intro i hd hi
   obtain⟨h1,h2,E⟩:=yv hd
   rw[bV,hb i e h1]
   by_cases h0:h e=0
   ·simp only[qN,h0,T6];exact ih (i+1) E h2
   ·simp only[qN,h0,Tv]
 have K:bJ f 0=if qN h l=0 then some (.inl (l.length:Int)) else some (.inr (ret (qN h l))):=this l 0 rfl (To _)
 rw[K]
 by_cases h0:qN h l=0
 ·rw[Ub h0,Ub h0];rfl
 ·rw[Ul h0,Ul h0];rfl
theorem wa {α:Type} {h:α->Int}:∀ {l:List α},qN h l=0->∀ e∈l,h e=0
 |[],_,e,J=>by cases J
 |x::l,hl,e,J=>by
  simp only[qN] at hl
  split at hl
  ·rename_i h0
   rcases S9.1 J with rfl|J
   ·exact h0
   ·exact wa hl e J
  ·rename_i h0;exact absurd hl h0
def Re (l:List (List UInt8)):Int:=if l.length=0 then 9 else if 20<l.length then 2 else qN N7 l
def N8 (e:bK):Int:=if e.fRepeats.length=0 then 9 else if 20<e.fRepeats.length then 2 else qN Re e.fRepeats
theorem RP (e:bK):mg e=some (N8 e):=by
 unfold mg nG;dsimp only
 unfold N8
 by_cases h0:e.fRepeats.length=0
 ·have c:decide ((e.fRepeats.length:Int)=0)=true:=TG oM
  simp only[c,SZ,Ub h0]
 ·have d0:decide ((e.fRepeats.length:Int)=0)=false:=TW oM
  by_cases h1:20<e.fRepeats.length
  ·have o:decide ((20:Int)<(e.fRepeats.length:Int))=true:=TG oM
   simp only[d0,o,SZ,S2,h0,h1,T6,Tv]
  ·have o:decide ((20:Int)<(e.fRepeats.length:Int))=false:=TW oM
   simp only[d0,o,S2,h0,h1,Tv]
   refine(nd e.fRepeats Re (fun a=>a) _ (fun i l J=> ?_) ?_).trans ?_
   ·have hi:=bM J
    simp only[bg hi,SZ,ap,J,SQ,bQ i oM,Re]
    by_cases g0:l.length=0
    ·have H:decide ((l.length:Int)=0)=true:=TG oM
     simp only[H,SZ,Ub g0];rfl
    ·have H:decide ((l.length:Int)=0)=false:=TW oM
     by_cases g1:20<l.length
     ·have c1:decide ((20:Int)<(l.length:Int))=true:=TG oM
      simp only[H,c1,SZ,S2,g0,g1,T6,Tv];rfl
     ·have c1:decide ((20:Int)<(l.length:Int))=false:=TW oM
      simp only[H,c1,S2,g0,g1,Tv]
      refine(nd l N7 (fun a=> .inr (.inr a)) _ (fun j t Y=> ?_) ?_).trans ?_
      ·have hj:=bM Y
       simp only[bg hj,SZ,ap,J,Y,SQ,bQ j oM,QL]
       by_cases hz:N7 t=0<;>simp[hz,cb]
      ·simp only[ap,J,SQ,ao,S2];rfl
      ·split<;>rfl
   ·simp only[ao,S2];rfl
   ·split<;>simp_all
theorem RQ (e:bK):e9 e=some (N8 e):=by
 unfold e9 nD;dsimp only
 unfold N8
 by_cases h0:e.fRepeats.length=0
 ·have c:decide ((e.fRepeats.length:Int)=0)=true:=TG oM
  simp only[c,SZ,Ub h0]
 ·have d0:decide ((e.fRepeats.length:Int)=0)=false:=TW oM
  by_cases h1:20<e.fRepeats.length
  ·have o:decide ((20:Int)<(e.fRepeats.length:Int))=true:=TG oM
   simp only[d0,o,SZ,S2,h0,h1,T6,Tv]
  ·have o:decide ((20:Int)<(e.fRepeats.length:Int))=false:=TW oM
   simp only[d0,o,S2,h0,h1,Tv]
   refine(nd e.fRepeats Re (fun a=>a) _ (fun i l J=> ?_) ?_).trans ?_
   ·have hi:=bM J
    simp only[bg hi,SZ,ap,J,SQ,bQ i oM,Re]
    by_cases g0:l.length=0
    ·have H:decide ((l.length:Int)=0)=true:=TG oM
     simp only[H,SZ,Ub g0];rfl
    ·have H:decide ((l.length:Int)=0)=false:=TW oM
     by_cases g1:20<l.length
     ·have c1:decide ((20:Int)<(l.length:Int))=true:=TG oM
      simp only[H,c1,SZ,S2,g0,g1,T6,Tv];rfl
     ·have c1:decide ((20:Int)<(l.length:Int))=false:=TW oM
      simp only[H,c1,S2,g0,g1,Tv]
      refine(nd l N7 (fun a=> .inr (.inr a)) _ (fun j t Y=> ?_) ?_).trans ?_
      ·have hj:=bM Y
       simp only[bg hj,SZ,ap,J,Y,SQ,bQ j oM,QM]
       by_cases hz:N7 t=0<;>simp[hz,cb]
      ·simp only[ap,J,SQ,ao,S2];rfl
      ·split<;>rfl
   ·simp only[ao,S2];rfl
   ·split<;>simp_all
def Jt (s:af):Int:=if CG s.fTag=false then 5 else if 50<s.fElements.length then 2 else qN N8 s.fElements
def Pc (l:List af):Int:=if 2000<l.length then 2 else qN Jt l
def Lv (l:List af):Prop:=∀ s∈l,s.fTag.length<=9223372036854775807
theorem RR (s:af) (hs:s.fTag.length<=9223372036854775807):gW s=some (Jt s):=by
 unfold gW nG;dsimp only
 unfold Jt
 rw[Nh s.fTag hs]
 simp only[SQ]
 cases Y:CG s.fTag with
 |false=>simp
 |true=>
  simp only[S7,S2,Uc,Tv]
  by_cases h1:50<s.fElements.length
  ·have o:decide ((50:Int)<(s.fElements.length:Int))=true:=TG oM
   simp only[o,SZ,h1,T6]
  ·have o:decide ((50:Int)<(s.fElements.length:Int))=false:=TW oM
   simp only[o,S2,h1,Tv]
   refine(nd s.fElements N8 (fun a=>a) _ (fun i e J=> ?_) ?_).trans ?_
   ·have hi:=bM J
    simp only[bg hi,SZ,ap,J,SQ,bQ i oM,RQ]
    by_cases hz:N8 e=0<;>simp[hz,cb]
   ·simp only[ao,S2];rfl
   ·split<;>simp_all
theorem QN (l:List af) (hs:Lv l):ip l=some (Pc l):=by
 unfold ip x_;dsimp only
 unfold Pc
 by_cases h1:2000<l.length
 ·have o:decide ((2000:Int)<(l.length:Int))=true:=TG oM
  simp only[o,SZ,h1,T6]
 ·have o:decide ((2000:Int)<(l.length:Int))=false:=TW oM
  simp only[o,S2,h1,Tv]
  refine(nd l Jt (fun a=>a) _ (fun i s V=> ?_) ?_).trans ?_
  ·have hi:=bM V
   have u3:=hs s (ST V)
   simp only[bg hi,SZ,ap,V,SQ,bQ i oM,J9 s.fTag oM,Jt]
   by_cases Y:CG s.fTag=false
   ·simp[Y,cb]
   ·replace Y:CG s.fTag=true:=by simpa using Y
    simp only[Y,S7,S2,Uc,Tv]
    by_cases h1:50<s.fElements.length
    ·have o:decide ((50:Int)<(s.fElements.length:Int))=true:=TG oM
     simp only[o,SZ,h1,T6];rfl
    ·have o:decide ((50:Int)<(s.fElements.length:Int))=false:=TW oM
     simp only[o,S2,h1,Tv]
     refine(nd s.fElements N8 (fun a=> .inr (.inr a)) _ (fun i e J=> ?_) ?_).trans ?_
     ·have hi:=bM J
      simp only[bg hi,SZ,ap,J,SQ,bQ i oM,RP]
      by_cases hz:N8 e=0<;>simp[hz,cb]
     ·simp only[ao,S2];rfl
     ·split<;>rfl
  ·simp only[ao,S2];rfl
  ·split<;>simp_all
theorem Nt (s:af):Pc [s]=Jt s:=by
 unfold Pc
 simp only[Tq,qN]
 split
 ·omega
 ·split
  ·rename_i h;exact h.symm
  ·rfl
theorem PT {s:af} (h:Jt s=0):s.fElements.length<=50/\∀ e∈s.fElements,e.fRepeats.length<=20/\∀ l∈e.fRepeats,l.length<=20/\∀ t∈l,t.length<=1000/\t.all (qR 32 126)=true:=by
 unfold Jt at h
 split at h
 ·cases h
 split at h
 ·cases h
 refine⟨by omega,fun e J=> ?_⟩
 have A:=wa h e J
 unfold N8 at A
 split at A
 ·cases A
 split at A
 ·cases A
 refine⟨by omega,fun l hl=> ?_⟩
 have g:=wa A l hl
 unfold Re at g
 split at g
 ·cases g
 split at g
 ·cases g
 refine⟨by omega,fun t Y=> ?_⟩
 have a:=wa g t Y
 unfold N7 at a
 split at a
 ·cases a
 split at a
 ·rename_i q;exact⟨by omega,q⟩
 ·cases a
variable {a many:Int}
abbrev Br:=ad
variable {b:Br} {g:List Br->Int->Int×Int} {x:Br}
inductive EH:Br->Prop
 |mk {x:Br}:x.fName.length<=MX->x.fSegment.fTag.length<=MX->x.fKids.length<=MX->(∀ a∈x.fKids,EH a)->EH x
theorem EH.name (h:EH x):x.fName.length<=MX:=by cases h;assumption
theorem EH.tag (h:EH x):x.fSegment.fTag.length<=MX:=by cases h;assumption
theorem EH.len (h:EH x):x.fKids.length<=MX:=by cases h;assumption
theorem EH.kids (h:EH x):∀ a∈x.fKids,EH a:=by cases h;assumption
def pJ:List Br->Bool
 |[]=>true
 |c::_=> !decide (c.fName=[])
def AG (s:af):Bool:=decide (s.fTag=[])&&decide ((s.fElements.length:Int)=0)
def Kv (b:Br):Bool:=bif decide (b.fName=[]) then decide (0<(b.fKids.length:Int)) else(!AG b.fSegment||pJ b.fKids)
def CJ (many:Int) (b:Br):Int:=if b.fName=[] then many+1 else many
def AH (g:List Br->Int->Int×Int) (a many:Int) (b:Br):Int×Int:=
 if 2000<CJ many b\/6<a then(2,CJ many b)
 else if b.fName≠[]/\ed b.fName=false then(5,CJ many b)
 else if Kv b=true then(3,CJ many b)
 else if b.fName=[] then(Jt b.fSegment,CJ many b)
 else g b.fKids (CJ many b)
def E8 (g:Int->Br->Int×Int):List Br->Int->Int×Int
 |[],many=>(0,many)
 |b::l,many=>if(g many b).1=0 then E8 g l (g many b).2 else g many b
def rV:Nat->List Br->Int->Int->Int×Int
 |0,_,_,many=>(0,many)
 |k+1,l,a,many=>E8 (AH (fun kids m=>rV k kids (a+1) m) a) l many
theorem NP {g:Int->Br->Int×Int} (hg:∀ many b,0<=many->(g many b).1=0->many<=(g many b).2/\(g many b).2<=2000\/(g many b).2=many):∀ {l:List Br} {many:Int},0<=many->(E8 g l many).1=0->many<=(E8 g l many).2/\(many<=2000->(E8 g l many).2<=2000)
 |[],many,_,_=>⟨T1 _,fun h=>h⟩
 |b::l,many,h0,h=>by
  unfold E8 at h⊢
  by_cases hb:(g many b).1=0
  ·rw[Ub hb] at h⊢
   rcases hg many b h0 hb with⟨h1,h2⟩|h1
   ·obtain⟨k1,k2⟩:=NP hg oM h
    exact⟨by omega,fun _=>k2 h2⟩
   ·rw[h1] at h⊢
    exact NP hg h0 h
  ·rw[Ul hb] at h⊢
   exact absurd h hb
theorem QZ (many:Int) (b:Br):many<=CJ many b/\CJ many b<=many+1:=by unfold CJ;split<;>omega
theorem NQ (hg:∀ l m,0<=m->(g l m).1=0->m<=(g l m).2/\(m<=2000->(g l m).2<=2000)) (h0:0<=many) (h:(AH g a many b).1=0):many<=(AH g a many b).2/\(AH g a many b).2<=2000:=by
 have hc:=QZ many b
 unfold AH at h⊢
 split at h
 ·cases h
 ·rename_i h1
  rw[Ul h1]
  split at h
  ·cases h
  ·rename_i h2
   rw[Ul h2]
   split at h
   ·cases h
   ·rename_i E
    rw[Ul E]
    split at h
    ·rename_i h4;rw[Ub h4];exact⟨by simp only;omega,by simp only;omega⟩
    ·rename_i h4
     rw[Ul h4]
     obtain⟨k1,k2⟩:=hg _ _ oM h
     exact⟨by omega,k2 oM⟩
theorem Kw:∀ (k:Nat) {l:List Br} {a many:Int},0<=many->(rV k l a many).1=0->many<=(rV k l a many).2/\(many<=2000->(rV k l a many).2<=2000)
 |0,_,_,_,_,_=>⟨T1 _,fun h=>h⟩
 |k+1,l,a,many,h0,h=>NP (fun many b h0 hb=> .inl (NQ (fun l m h0 h=>Kw k h0 h) h0 hb)) h0 h
theorem Jz {R:Type} {g:Int->Br->Int×Int} {ret:Int×Int->R} {i:Int}:∀ {l:List Br} {many:Int} {B:Int->(Int×Int)⊕R},
  BG (fun s e=>if(g s e).1=0 then(.inl (g s e).2:Int⊕((Int×Int)⊕R)) else .inr (.inr (ret (g s e)))) B l many=if(E8 g l many).1=0 then B (E8 g l many).2 else .inr (ret (E8 g l many))
 |[],many,B=>by simp[BG,E8]
 |b::l,many,B=>by
  unfold BG E8
  by_cases hb:(g many b).1=0
  ·simp only[hb,T6];exact Jz (i:=i)
  ·simp only[hb,Tv]
theorem Ps {s:af} (hs:s.fTag.length<=MX):ip [s]=some (Jt s):=by
 rw[QN [s] (fun x hx=>by rw[Td.1 hx];exact hs),Nt]
theorem Pu (s:af):rb s=some (AG s):=by
 unfold rb nq;dsimp only
 simp only[aY,SQ];rfl
theorem Kx (l:List Br) (v:Bool):(DY (v||decide ((l.length:Int)=0)) ((cm l 0).bind fun e=>some !decide (e.fName=[])))=some (v||pJ l):=by
 cases l with
 |nil=>cases v<;>rfl
 |cons c l=>
  rw[TW (by simp only[S6];omega)]
  have:cm (c::l) 0=some c:=rfl
  simp only[this,SQ,bR,UN,pJ]
theorem NR {fu:Nat} (hb:EH b) (h0:0<=many) (h1:many<=2001) (h2:0<=a) (hd:a<=7) (w:a<=6->ct fu ⟨many⟩ b.fKids (a+1)=some ((g b.fKids many).1,⟨(g b.fKids many).2⟩)):
  cV (fu+1) ⟨many⟩ b a=some ((AH g a many b).1,⟨(AH g a many b).2⟩):=by
 rw[kN];unfold p6;dsimp only;simp only[lJ]
 rw[bp (many+1) oM oM,bp (a+1) oM oM]
 unfold AH CJ Kv
 by_cases hn:b.fName=[]
 ·simp only[hn,Ue,SZ,T6,bR,aY,SQ,S7,TY,ne_eq,not_true_eq_false,false_and,Tv]
  by_cases c1:2000<many+1\/6<a
  ·rw[Ub c1]
   have:(decide (2000<many+1)||decide (6<a))=true:=by simpa using c1
   rw[this];rfl
  ·rw[Ul c1]
   have:(decide (2000<many+1)||decide (6<a))=false:=by simpa using c1
   rw[this]
   simp only[S2,hY,SQ,S8]
   cases z:decide (0<(b.fKids.length:Int)) with
   |true=>rfl
   |false=>
    simp only[S2,Tj,Tv]
    rw[Ps hb.tag];rfl
 ·have C:decide (b.fName=[])=false:=TW hn
  simp only[C,S2,hn,Tv,Tw,TY,bR,aY,SQ,S8,ne_eq,not_false_eq_true,true_and,Um,Pu,Kx]
  by_cases c1:2000<many\/6<a
  ·rw[Ub c1]
   have:(decide (2000<many)||decide (6<a))=true:=by simpa using c1
   rw[this];rfl
  ·rw[Ul c1]
   have:(decide (2000<many)||decide (6<a))=false:=by simpa using c1
   rw[this,G3 _ hb.name]
   simp only[S2,SQ]
   cases z:ed b.fName with
   |false=>rfl
   |true=>
    simp only[S7,S2,Uc,Tv]
    try simp only[SQ,aY,S8]
    cases u:(!AG b.fSegment||pJ b.fKids) with
    |true=>rfl
    |false=>
     simp only[S2,Tj,Tv]
     rw[w oM];rfl
theorem NS:∀ (k:Nat) (a:Nat) (l:List Br) (many:Int) (fu:Nat),a<=7->8<=k+a->2 * k<=fu->0<=many->many<=2000->(∀ b∈l,EH b)->l.length<=MX->
  ct fu ⟨many⟩ l (a:Int)=some ((rV k l a many).1,⟨(rV k l a many).2⟩)
 |0,a,_,_,_,h1,h2,_,_,_,_,_=>by omega
 |k+1,a,l,many,0,_,_,E,_,_,_,_=>by omega
 |k+1,a,l,many,1,_,_,E,_,_,_,_=>by omega
 |k+1,a,l,many,fu+2,h1,h2,E,h4,h5,hl,h8=>by
  rw[lK];unfold p6;dsimp only;simp only[kM]
  have d:MX=9223372036854775807:=rfl
  refine b6 (AC l (fun i (s:Int)=>(s,(i:Int))) (fun s e=>if(AH (fun kids m=>rV k kids ((a:Int)+1) m) a s e).1=0 then .inl (AH (fun kids m=>rV k kids ((a:Int)+1) m) a s e).2 else .inr (.inr ((AH (fun kids m=>rV k kids ((a:Int)+1) m) a s e).1,⟨(AH (fun kids m=>rV k kids ((a:Int)+1) m) a s e).2⟩)))
   (fun s=> .inl (s,(l.length:Int))) (fun s=>0<=s/\s<=2000) (fun i e s J hs=> ?_) (fun e s F J hs hg=> ?_) (fun s hs=> ?_) many ⟨h4,h5⟩) ?_
  ·have hi:=bM J
   have Z:=ST J
   simp only[bg hi,SZ,ap,J,SQ,bQ i oM]
   rw[ra e,NR (g:=fun kids m=>rV k kids ((a:Int)+1) m) (hl e Z) hs.1 oM oM oM (fun hd=> ?_)]
   ·simp only[SQ]
    by_cases hf:(AH (fun kids m=>rV k kids ((a:Int)+1) m) a s e).1=0
    ·rw[Ub hf,TG hf];rfl
    ·rw[Ul hf,TW hf];rfl
   ·exact NS k (a+1) e.fKids s fu oM oM oM hs.1 hs.2 (hl e Z).kids (hl e Z).len
  ·by_cases hf:(AH (fun kids m=>rV k kids ((a:Int)+1) m) a s e).1=0
   ·rw[Ub hf] at hg
    cases hg
    have:=NQ (fun l m h0 h=>Kw k h0 h) hs.1 hf
    exact⟨by omega,this.2⟩
   ·rw[Ul hf] at hg;cases hg
  ·simp only[ao,S2];rfl
  ·rw[Jz (R:=Int×aT) (ret:=fun r=>(r.1,⟨r.2⟩)) (i:=0)]
   show _=some ((E8 _ l many).1,_)
   by_cases hf:(E8 (AH (fun kids m=>rV k kids ((a:Int)+1) m) a) l many).1=0
   ·rw[Ub hf]
    show some (0,_)=_
    rw[<-hf];rfl
   ·rw[Ul hf];rfl
theorem CS (l:List Br) (hl:∀ b∈l,EH b) (h8:l.length<=MX):jN l=some (rV 8 l 0 0).1:=by
 have d:=vw
 unfold jN xO;dsimp only
 have:=NS 8 0 l 0 FU oM oM oM oM oM hl h8
 rw[show(0:Int)=((0:Nat):Int) from rfl] at *
 rw[this];rfl
variable {l:List Br}
theorem Ey {α:Type} {f g:α->Nat}:∀ {l:List α},(∀ a∈l,f a<=g a)->(l.map f).sum<=(l.map g).sum
 |[],_=>by simp
 |a::l,h=>by
  have h1:=h a oS
  have h2:=Ey (l:=l) fun b hb=>h b (by simp[hb])
  simp only[S5,UH]
  omega
theorem Ky {α:Type}:∀ l:List α,(l.map fun _=>1).sum=l.length
 |[]=>rfl
 |a::l=>by simp only[S5,UH,Ky l,S6];omega
theorem Q0 (fu:Nat) (d m:Int):cC (fu+1) [] d m=some (m,0):=by
 rw[ic];unfold tU;dsimp only;simp only[ib]
 rw[bV];rfl
theorem NT:∀ (k:Nat) (a:Nat) (l:List Br) (many:Int) (fu:Nat),a<=7->8<=k+a->k+1<=fu->0<=many->many<=2000->(∀ b∈l,EH b)->l.length<=MX->
  cC fu l (a:Int) many=some ((rV k l a many).2,(rV k l a many).1)
 |0,a,_,_,_,h1,h2,_,_,_,_,_=>by omega
 |k+1,a,l,many,0,_,_,E,_,_,_,_=>by omega
 |k+1,a,l,many,1,_,_,E,_,_,_,_=>by omega
 |k+1,a,l,many,fu+2,h1,h2,E,h4,h5,hl,h8=>by
  rw[ic];unfold tU;dsimp only;simp only[ib]
  have d:MX=9223372036854775807:=rfl
  refine b6 (AC l (fun i (s:Int)=>(s,(i:Int))) (fun s e=>if(AH (fun kids m=>rV k kids ((a:Int)+1) m) a s e).1=0 then .inl (AH (fun kids m=>rV k kids ((a:Int)+1) m) a s e).2 else .inr (.inr ((AH (fun kids m=>rV k kids ((a:Int)+1) m) a s e).2,(AH (fun kids m=>rV k kids ((a:Int)+1) m) a s e).1)))
   (fun s=> .inl (s,(l.length:Int))) (fun s=>0<=s/\s<=2000) (fun i e s J hs=> ?_) (fun e s F J hs hg=> ?_) (fun s hs=> ?_) many ⟨h4,h5⟩) ?_
  ·have hi:=bM J
   have Z:=ST J
   have hb:=hl e Z
   simp only[bg hi,SZ,ap,J,SQ,bQ i oM]
   rw[bp (s+1) oM oM,bp ((a:Int)+1) oM oM]
   have w:∀ m:Int,0<=m->m<=2000->a<=6->cC (fu+1) e.fKids ((a:Int)+1) m=some ((rV k e.fKids ((a:Int)+1) m).2,(rV k e.fKids ((a:Int)+1) m).1):=fun m k1 k2 k3=>by
    exact NT k (a+1) e.fKids m (fu+1) oM oM oM k1 k2 hb.kids hb.len
   unfold AH CJ Kv
   by_cases hn:e.fName=[]
   ·simp only[hn,Ue,SZ,T6,bR,aY,SQ,S7,TY,ne_eq,not_true_eq_false,false_and,Tv,S8,hY,S2]
    by_cases c1:2000<s+1\/6<(a:Int)
    ·rw[Ub c1]
     have:(decide (2000<s+1)||decide (6<(a:Int)))=true:=by simpa using c1
     rw[this];rfl
    ·rw[Ul c1]
     have:(decide (2000<s+1)||decide (6<(a:Int)))=false:=by simpa using c1
     rw[this]
     simp only[S2]
     have hx:∀ (c:Option Bool),c=some (decide (e.fSegment.fTag=[])&&decide ((e.fSegment.fElements.length:Int)=0))->True:=fun _ _=>trivial
     have hz:∃ v,(bif decide (e.fSegment.fTag=[]) then some (decide ((e.fSegment.fElements.length:Int)=0)) else some false)=some v:=by cases decide (e.fSegment.fTag=[])<;>exact⟨_,rfl⟩
     first
      |(obtain⟨v,hv⟩:=hz
        rw[hv])
      |skip
     simp only[SQ,bR,UN,DY]
     cases z:decide (0<(e.fKids.length:Int)) with
     |true=>rfl
     |false=>
      simp only[S2,SQ,Tj,Tv]
      rw[RR _ hb.tag]
      simp only[SQ]
      by_cases u:Jt e.fSegment=0
      ·have hk:e.fKids=[]:=by
        have:=of_decide_eq_false z
        exact Te.1 oM
       rw[hk,u,Q0];rfl
      ·rw[Ul u,TW u];rfl
   ·have C:decide (e.fName=[])=false:=TW hn
    simp only[C,S2,hn,Tv,Tw,TY,bR,aY,SQ,S8,ne_eq,not_false_eq_true,true_and,Um]
    by_cases c1:2000<s\/6<(a:Int)
    ·rw[Ub c1]
     have:(decide (2000<s)||decide (6<(a:Int)))=true:=by simpa using c1
     rw[this];rfl
    ·rw[Ul c1]
     have:(decide (2000<s)||decide (6<(a:Int)))=false:=by simpa using c1
     rw[this,G4 _ hb.name]
     simp only[S2,SQ]
     cases z:ed e.fName with
     |false=>rfl
     |true=>
      simp only[S7,S2,Uc,Tv,Kx,SQ,aY,bR,S8,Tx]
      have f:(decide (e.fSegment.fTag=[])&&decide ((e.fSegment.fElements.length:Int)=0))=AG e.fSegment:=rfl
      rw[f]
      cases u:(!AG e.fSegment||pJ e.fKids) with
      |true=>rfl
      |false=>
       simp only[S2,Tj,Tv]
       rw[w s hs.1 hs.2 oM]
       simp only[SQ]
       by_cases hf:(rV k e.fKids ((a:Int)+1) s).1=0
       ·rw[Ub hf,TG hf];rfl
       ·rw[Ul hf,TW hf];rfl
  ·by_cases hf:(AH (fun kids m=>rV k kids ((a:Int)+1) m) a s e).1=0
   ·rw[Ub hf] at hg
    cases hg
    have:=NQ (fun l m h0 h=>Kw k h0 h) hs.1 hf
    exact⟨by omega,this.2⟩
   ·rw[Ul hf] at hg;cases hg
  ·simp only[ao,S2];rfl
  ·rw[Jz (R:=Int×Int) (ret:=fun r=>(r.2,r.1)) (i:=0)]
   show _=some (_,(E8 _ l many).1)
   by_cases hf:(E8 (AH (fun kids m=>rV k kids ((a:Int)+1) m) a) l many).1=0
   ·rw[Ub hf]
    show some (_,0)=_
    rw[<-hf];rfl
   ·rw[Ul hf];rfl
theorem G_ (l:List Br) (hl:∀ b∈l,EH b) (h8:l.length<=MX):gb l=some (rV 8 l 0 0).1:=by
 have d:=vw
 unfold gb nr;dsimp only
 have:=NT 8 0 l 0 FU oM oM oM oM oM hl h8
 rw[show(0:Int)=((0:Nat):Int) from rfl] at *
 rw[this];rfl
def JA (b:Br):Prop:=b.fName=[]/\Jt b.fSegment=0/\b.fKids=[]
def LK:Nat->List Br->Prop
 |0,l=>l=[]
 |d+1,l=>∀ b∈l,JA b\/(b.fName≠[]/\AG b.fSegment=true/\pJ b.fKids=false/\LK d b.fKids)
def fb:Nat->List Br->Nat
 |0,_=>0
 |d+1,l=>(l.map fun b=>if b.fName=[] then 1 else fb d b.fKids).sum
theorem Ha:∀ (d:Nat) (l:List Br) (many:Int),d<=7->(rV (d+1) l (7 - (d:Int)) many).1=0->LK d l/\(rV (d+1) l (7 - (d:Int)) many).2=many+fb d l
 |0,[],many,_,_=>⟨rfl,by simp[rV,E8,fb]⟩
 |0,b::l,many,_,h=>by
  exfalso
  have hz:(AH (fun kids m=>rV 0 kids (7 - ((0:Nat):Int)+1) m) (7 - ((0:Nat):Int)) many b).1≠0:=by
   unfold AH
   rw[Ub (.inr oM)];simp
  unfold rV E8 at h
  rw[Ul hz] at h
  exact hz h
 |d+1,[],many,_,_=>⟨(fun b hb=>by cases hb),by simp[rV,E8,fb]⟩
 |d+1,b::l,many,hd,h=>by
  have a:(7 - ((d+1:Nat):Int))+1=7 - (d:Int):=by omega
  have h7:∀ (l:List Br) (m:Int),rV (d+1+1) l (7 - ((d+1:Nat):Int)) m=E8 (AH (fun kids m=>rV (d+1) kids (7 - (d:Int)) m) (7 - ((d+1:Nat):Int))) l m:=fun l m=>by
   show E8 (AH (fun kids m=>rV (d+1) kids (7 - ((d+1:Nat):Int)+1) m) (7 - ((d+1:Nat):Int))) l m=_
   rw[a]
  rw[h7] at h⊢
  unfold E8 at h⊢
  by_cases hb:(AH (fun kids m=>rV (d+1) kids (7 - (d:Int)) m) (7 - ((d+1:Nat):Int)) many b).1=0
  ·rw[Ub hb] at h⊢
   rw[<-h7] at h⊢
   obtain⟨k1,k2⟩:=Ha (d+1) l _ hd h
   have s:(JA b\/(b.fName≠[]/\AG b.fSegment=true/\pJ b.fKids=false/\LK d b.fKids))/\(AH (fun kids m=>rV (d+1) kids (7 - (d:Int)) m) (7 - ((d+1:Nat):Int)) many b).2=many+((if b.fName=[] then 1 else fb d b.fKids:Nat):Int):=by
    unfold AH at hb⊢
    split at hb
    ·cases hb
    ·rename_i c1
     rw[Ul c1]
     split at hb
     ·cases hb
     ·rename_i z
      rw[Ul z]
      split at hb
      ·cases hb
      ·rename_i u
       rw[Ul u]
       unfold CJ Kv at *
       by_cases hn:b.fName=[]
       ·simp only[hn,T6,Ue,SZ,SU] at hb u⊢
        exact⟨.inl ⟨hn,hb,Te.1 oM⟩,rfl⟩
       ·simp only[hn,Tv,Um,S2,Tn,TR,not_or,Bool.not_eq_false,Uk] at hb u⊢
        obtain⟨N,H⟩:=Ha d b.fKids many oM hb
        exact⟨.inr ⟨hn,u.1,u.2,N⟩,H⟩
   refine⟨fun q hq=> ?_, ?_⟩
   ·rcases S9.1 hq with rfl|hq
    ·exact s.1
    ·exact k1 q hq
   ·rw[k2,s.2]
    simp only[fb,S5,UH]
    omega
  ·rw[Ul hb] at h
   exact absurd h hb
theorem AJ (h:(rV 8 l 0 0).1=0):LK 7 l/\fb 7 l<=2000:=by
 obtain⟨h1,h2⟩:=Ha 7 l 0 oM h
 have E:=(Kw 8 (l:=l) (a:=0) (many:=0) oM h).2 oM
 have h4:(rV 8 l 0 0).2=0+fb 7 l:=h2
 exact⟨h1,by omega⟩
theorem NU (d:Nat) (h:LK d l) (hb:pJ l=false):1<=fb d l:=by
 cases d with
 |zero=>have h:l=[]:=h;subst h;cases hb
 |succ d=>
  cases l with
  |nil=>cases hb
  |cons c l=>
   have hc:c.fName=[]:=by simpa[pJ] using hb
   simp only[fb,S5,UH,hc,T6]
   omega
theorem wc (d:Nat) (h:LK d l):l.length<=fb d l:=by
 cases d with
 |zero=>have h:l=[]:=h;subst h;simp
 |succ d=>
  rw[<-Ky l]
  refine Ey fun b hb=> ?_
  rcases h b hb with h|⟨h1,h2,E,h4⟩
  ·rw[Ub h.1];omega
  ·rw[Ul h1];exact NU d h4 E
theorem Ip {α R:Type} {g:Int->α->Int×Int} {ret:Int×Int->R}:∀ {l:List α} {many:Int} {B:Int->(Int×Int)⊕R},
  BG (fun s e=>if(g s e).1=0 then(.inl (g s e).2:Int⊕((Int×Int)⊕R)) else .inr (.inr (ret (g s e)))) B l many=if(ly g l many).1=0 then B (ly g l many).2 else .inr (ret (ly g l many))
 |[],many,B=>by simp[BG,ly]
 |b::l,many,B=>by
  unfold BG ly
  by_cases hb:(g many b).1=0
  ·simp only[hb,T6];exact Ip
  ·simp only[hb,Tv]
theorem Iq (D:List UInt8->Bool) (f:List Sl->Int->Int×Int) (a many:Int) (x:Sl):
  (300<many+1\/6<a)/\wK D f a many x=(2,many+1)
  \/¬ (300<many+1\/6<a)/\(oE x||qO x)=false/\wK D f a many x=(3,many+1)
  \/¬ (300<many+1\/6<a)/\(oE x||qO x)=true/\(x.fName≠[]/\ed x.fName=false)/\wK D f a many x=(5,many+1)
  \/¬ (300<many+1\/6<a)/\(oE x||qO x)=true/\¬ (x.fName≠[]/\ed x.fName=false)/\(x.fName=[]/\D x.fTag=false)/\wK D f a many x=(9,many+1)
  \/¬ (300<many+1\/6<a)/\(oE x||qO x)=true/\¬ (x.fName≠[]/\ed x.fName=false)/\¬ (x.fName=[]/\D x.fTag=false)/\(¬ (0<=x.fMin/\x.fMin<=x.fMax)\/¬ (1<=x.fMax/\x.fMax<=1000))/\wK D f a many x=(1,many+1)
  \/¬ (300<many+1\/6<a)/\(oE x||qO x)=true/\¬ (x.fName≠[]/\ed x.fName=false)/\¬ (x.fName=[]/\D x.fTag=false)/\¬ (¬ (0<=x.fMin/\x.fMin<=x.fMax)\/¬ (1<=x.fMax/\x.fMax<=1000))/\wK D f a many x=if x.fName=[] then(0,many+1) else f x.fItems (many+1):=by
 unfold wK
 by_cases c1:300<many+1\/6<a
 ·exact .inl ⟨c1,Ub c1⟩
 refine .inr ?_
 rw[Ul c1]
 cases z:(oE x||qO x) with
 |false=>exact .inl ⟨c1,rfl,rfl⟩
 |true=>
  refine .inr ?_
  simp only[Uc,Tv]
  by_cases u:x.fName≠[]/\ed x.fName=false
  ·exact .inl ⟨c1,trivial,u,Ub u⟩
  refine .inr ?_
  rw[Ul u]
  by_cases j:x.fName=[]/\D x.fTag=false
  ·exact .inl ⟨c1,trivial,u,j,Ub j⟩
  refine .inr ?_
  rw[Ul j]
  by_cases c:¬ (0<=x.fMin/\x.fMin<=x.fMax)\/¬ (1<=x.fMax/\x.fMax<=1000)
  ·exact .inl ⟨c1,trivial,u,j,c,Ub c⟩
  ·exact .inr ⟨c1,trivial,u,j,c,Ul c⟩
theorem Kj (s:aj) (hs:s.fDefs.length<=1000):∀ (k:Nat) (a:Nat) (l:List Sl) (many:Int) (fu:Nat),a<=7->8<=k+a->k+1<=fu->0<=many->many<=300->(∀ b∈l,Hi b)->
  dM fu s l (a:Int) many=some ((uf (aK s.fDefs) k l a many).2,(uf (aK s.fDefs) k l a many).1)
 |0,a,_,_,_,h1,h2,_,_,_,_=>by omega
 |k+1,a,l,many,0,_,_,E,_,_,_=>by omega
 |k+1,a,l,many,fu+1,h1,h2,E,h4,h5,hl=>by
  rw[nK];unfold xF;dsimp only;simp only[nJ]
  unfold uf RW
  rw[Ij]
  by_cases H:l=[]
  ·rw[TG H,Ub H];rfl
  rw[TW H,Ul H]
  simp only[S2]
  by_cases d:50<l.length
  ·rw[Ub d,show decide (50<((l.length:Nat):Int))=true by simp;omega];rfl
  rw[Ul d,show decide (50<((l.length:Nat):Int))=false by simp;omega]
  simp only[S2]
  have o:∀ m b,0<=m->(wK (aK s.fDefs) (fun it m=>uf (aK s.fDefs) k it ((a:Int)+1) m) a m b).1=0->m<=(wK (aK s.fDefs) (fun it m=>uf (aK s.fDefs) k it ((a:Int)+1) m) a m b).2/\(wK (aK s.fDefs) (fun it m=>uf (aK s.fDefs) k it ((a:Int)+1) m) a m b).2<=300:=fun m b Z hx=>by
   obtain⟨N, -, -,q4⟩:=Ki hx
   rcases q4 with⟨_,q⟩|⟨_,q⟩
   ·rw[q];exact⟨by simp only;omega,by simp only;omega⟩
   ·rw[q] at hx⊢
    obtain⟨k1,k2⟩:=AD _ k oM oM hx
    exact⟨by omega,k2⟩
  refine b6 (AC l (fun i (s:Int)=>(s,(i:Int))) (fun m e=>if(wK (aK s.fDefs) (fun it m=>uf (aK s.fDefs) k it ((a:Int)+1) m) a m e).1=0 then .inl (wK (aK s.fDefs) (fun it m=>uf (aK s.fDefs) k it ((a:Int)+1) m) a m e).2 else .inr (.inr ((wK (aK s.fDefs) (fun it m=>uf (aK s.fDefs) k it ((a:Int)+1) m) a m e).2,(wK (aK s.fDefs) (fun it m=>uf (aK s.fDefs) k it ((a:Int)+1) m) a m e).1)))
   (fun m=> .inl (m,(l.length:Int))) (fun m=>0<=m/\m<=300) (fun i e m J Z=> ?_) (fun e m m' J Z hg=> ?_) (fun m Z=> ?_) many ⟨h4,h5⟩) ?_
  ·have hi:=bM J
   have p:=ST J
   have hb:=hl e p
   simp only[bg hi,SZ,ap,J,SQ,bQ i oM,fj,bR]
   rw[bp (m+1) oM oM,PV e hb]
   simp only[SQ,RT e hb,aY,G4 _ hb.name,vd,bR]
   obtain⟨n,hn,y⟩:=Pd s e.fTag hs
   have ha:hY (decide (e.fName=[])) ((c_ s e.fTag).bind fun x=>some (decide (x<0)))=some (decide (e.fName=[])&& !aK s.fDefs e.fTag):=by
    rw[hn];simp only[SQ,aY,y]
   rw[ha]
   simp only[SQ]
   rcases Iq (aK s.fDefs) (fun it m=>uf (aK s.fDefs) k it ((a:Int)+1) m) a m e with⟨c1,q⟩|⟨c1,z,q⟩|⟨c1,z,u,q⟩|⟨c1,z,u,j,q⟩|⟨c1,z,u,j,c,q⟩|⟨c1,z,u,j,c,q⟩
   ·rw[q,show(decide (300<m+1)||decide (6<(a:Int)))=true by simpa using c1];rfl
   ·rw[q,show(decide (300<m+1)||decide (6<(a:Int)))=false by simpa using c1]
    have:(!oE e&& !qO e)=true:=by simpa using z
    rw[this];rfl
   ·have h2:(!oE e&& !qO e)=false:=by
     cases hv:oE e with
     |true=>rfl
     |false=>rw[hv] at z;simp only[Tx] at z;rw[z];rfl
    rw[q,show(decide (300<m+1)||decide (6<(a:Int)))=false by simpa using c1,h2,TW u.1,u.2];rfl
   ·have h2:(!oE e&& !qO e)=false:=by
     cases hv:oE e with
     |true=>rfl
     |false=>rw[hv] at z;simp only[Tx] at z;rw[z];rfl
    rw[q,show(decide (300<m+1)||decide (6<(a:Int)))=false by simpa using c1,h2,TG j.1,j.2];rfl
   ·have h2:(!oE e&& !qO e)=false:=by
     cases hv:oE e with
     |true=>rfl
     |false=>rw[hv] at z;simp only[Tx] at z;rw[z];rfl
    have E:(!decide (e.fName=[])&& !ed e.fName)=false:=by
     by_cases hv:e.fName=[]
     ·rw[TG hv];rfl
     ·have:ed e.fName=true:=by
       cases hq:ed e.fName with
       |true=>rfl
       |false=>exact absurd ⟨hv,hq⟩ u
      rw[this];simp
    have h:(decide (e.fName=[])&& !aK s.fDefs e.fTag)=false:=by
     by_cases hv:e.fName=[]
     ·have:aK s.fDefs e.fTag=true:=by
       cases hq:aK s.fDefs e.fTag with
       |true=>rfl
       |false=>exact absurd ⟨hv,hq⟩ j
      rw[this];simp
     ·rw[TW hv];rfl
    have g:(!(decide (0<=e.fMin)&&decide (e.fMin<=e.fMax))|| !(decide (1<=e.fMax)&&decide (e.fMax<=1000)))=true:=by
     simp only[Tn,TR,TU,Ts];omega
    rw[q,show(decide (300<m+1)||decide (6<(a:Int)))=false by simpa using c1,h2,E,h,g];rfl
   ·have h2:(!oE e&& !qO e)=false:=by
     cases hv:oE e with
     |true=>rfl
     |false=>rw[hv] at z;simp only[Tx] at z;rw[z];rfl
    have E:(!decide (e.fName=[])&& !ed e.fName)=false:=by
     by_cases hv:e.fName=[]
     ·rw[TG hv];rfl
     ·have:ed e.fName=true:=by
       cases hq:ed e.fName with
       |true=>rfl
       |false=>exact absurd ⟨hv,hq⟩ u
      rw[this];simp
    have h:(decide (e.fName=[])&& !aK s.fDefs e.fTag)=false:=by
     by_cases hv:e.fName=[]
     ·have:aK s.fDefs e.fTag=true:=by
       cases hq:aK s.fDefs e.fTag with
       |true=>rfl
       |false=>exact absurd ⟨hv,hq⟩ j
      rw[this];simp
     ·rw[TW hv];rfl
    have g:(!(decide (0<=e.fMin)&&decide (e.fMin<=e.fMax))|| !(decide (1<=e.fMax)&&decide (e.fMax<=1000)))=false:=by
     simp only[TF,Bool.not_eq_false',SR,SU];omega
    rw[q,show(decide (300<m+1)||decide (6<(a:Int)))=false by simpa using c1,h2,E,h,g]
    simp only[S2]
    by_cases hv:e.fName=[]
    ·rw[TG hv,Ub hv];rfl
    ·rw[TW hv,Ul hv,bp ((a:Int)+1) oM oM]
     have w:=Kj s hs k (a+1) e.fItems (m+1) fu oM oM oM oM oM hb.items
     rw[show((a+1:Nat):Int)=(a:Int)+1 by omega] at w
     simp only[S2]
     rw[w]
     simp only[SQ]
     by_cases hz:(uf (aK s.fDefs) k e.fItems ((a:Int)+1) (m+1)).1=0
     ·rw[Ub hz,TG hz];rfl
     ·rw[Ul hz,TW hz];rfl
  ·by_cases hf:(wK (aK s.fDefs) (fun it m=>uf (aK s.fDefs) k it ((a:Int)+1) m) a m e).1=0
   ·rw[Ub hf] at hg
    cases hg
    have:=o m e Z.1 hf
    exact⟨by omega,this.2⟩
   ·rw[Ul hf] at hg;cases hg
  ·simp only[ao,S2];rfl
  ·rw[Ip (R:=Int×Int) (ret:=fun r=>(r.2,r.1))]
   by_cases hf:(ly (wK (aK s.fDefs) (fun it m=>uf (aK s.fDefs) k it ((a:Int)+1) m) a) l many).1=0
   ·rw[Ub hf]
    show some (_,0)=_
    rw[hf]
   ·rw[Ul hf];rfl
theorem Eo {α β:Type} (g:α->List β) (l:List α) (i:Nat):((l.take i).flatMap g).length<=(l.flatMap g).length:=by
 conv=>rhs;rw[<-Tf i l]
 rw[UM,SW];omega
theorem Pf {l:List Sl} {k:Nat} {x:Sl} (hx:x∈l) (hn:x.fName≠[]):ye k x.fItems<=ye (k+1) l:=by
 unfold ye
 induction l with
 |nil=>cases hx
 |cons y l ih=>
  simp only[S5,UH]
  rcases S9.1 hx with rfl|hx
  ·rw[Ul hn]
   cases k with
   |zero=>simp[ye]
   |succ k=>show ye (k+1) x.fItems<=_;omega
  ·have:=ih hx
   cases k with
   |zero=>simp[ye]
   |succ k=>show ye (k+1) x.fItems<=_;have h2:ye (k+1) x.fItems<=_:=this;omega
theorem Kk {D:List UInt8->Bool}:∀ (k:Nat) (l:List Sl) (fu:Nat),Io D k l->ye k l<=300->k<=fu->fE fu l=some (wA k l)
 |0,_,_,h,_,_=>h.elim
 |k+1,l,0,_,_,h=>by omega
 |k+1,l,fu+1,h,hc,hf=>by
  rw[q8];unfold xD;dsimp only;simp only[q7]
  have h8:=Jv (k+1) l
  have y:=h.len
  refine b6 (ls l (fun i p=>(p.flatMap (zH (wA k)),(i:Int))) (a:= .inl ((wA (k+1) l),(l.length:Int))) (fun i e J=> ?_) ?_) rfl
  ·have hi:=bM J
   have Z:=ST J
   simp only[bg hi,SZ,ap,J,SQ,bQ i oM]
   have hs:(l.take i++[e]).flatMap (zH (wA k))=(l.take i).flatMap (zH (wA k))++zH (wA k) e:=by rw[UM];simp
   have z:=Eo (zH (wA k)) l (i+1)
   rw[eu J,hs,SW] at z
   have b:(l.flatMap (zH (wA k))).length<=300:=TT h8 hc
   rw[hs]
   unfold zH at z⊢
   by_cases hn:e.fName=[]
   ·rw[TG hn,Ub hn];simp
   ·rw[Ul hn] at z⊢
    rw[TW hn,Kk k e.fItems fu ((h.it Z).2 hn) (TT (Pf Z hn) hc) oM]
    simp only[S6] at z
    simp only[Tw,SZ,SQ]
    rw[dc (by simp only[Tq];unfold zH at b;omega),dc (by simp only[SW,Tq];unfold zH at b;omega)]
    simp
  ·simp only[ao,S2];rfl
theorem Kl (l:List (List UInt8)) (hl:l.length<=1000):jb l=some (jp [] l):=by
 unfold jb h_;dsimp only
 refine mI (X:=Nat) (fun i=>(i:Int)) (fun i=>l.length - i) (fun i=>i<=l.length/\jp [] l=jp (l.take i) (l.drop i)) ?_ 0 ⟨To _,rfl⟩
 rintro i ⟨h1,h2⟩
 rcases Th i l.length with hi|hi
 ·obtain⟨e,J⟩:=dY hi
  rw[nI J] at h2
  simp only[jp] at h2
  have d:=mI (X:=Nat) (R:=Int⊕(Int⊕Bool)) (f:=fun u:Int=>bif decide (u<(i:Int)) then(cm l (i:Int)).bind fun e=>(cm l u).bind fun F=>bif decide (e=F) then cb (cb (cb (cb (some true)))) else some (Sum.inl (IntKind.i64.wrap (u+1))) else cb (some (Sum.inl u)))
   (k:=bX fun _=>some (Sum.inl (IntKind.i64.wrap ((i:Int)+1)))) (c:=if(l.take i).contains e=true then some (.inr (.inr true)) else some (.inl ((i+1:Nat):Int))) (fun j=>(j:Int)) (fun j=>i - j) (fun j=>j<=i/\(l.take j).contains e=false) (by
    rintro j ⟨k1,k2⟩
    rcases Th j i with hj|hj
    ·obtain⟨q,hq⟩:=dY (l:=l) (i:=j) oM
     simp only[bg hj,SZ,ap,J,hq,SQ,bQ j oM]
     by_cases a:e=q
     ·subst a
      refine .inr ⟨_,by rw[TG rfl];rfl, ?_⟩
      have:(l.take i).contains e=true:=by
       simp only[UF]
       exact ST (by rw[List.getElem?_take_of_lt hj];exact hq)
      rw[this];rfl
     ·refine .inl ⟨j+1,⟨hj, ?_⟩,by omega,by rw[TW a];rfl⟩
      rw[eu hq]
      simp only[Ux,Ta,Td,Ts,not_or] at k2⊢
      exact⟨k2,a⟩
    ·have m:j=i:=by omega
     subst m
     refine .inr ⟨_,by simp only[ao,S2];rfl, ?_⟩
     rw[k2,bQ j oM];rfl) 0 ⟨To _,by simp⟩
  simp only[bg hi,SZ]
  rw[show((0:Nat):Int)=0 from rfl] at d
  rw[d]
  cases hc:(l.take i).contains e with
  |true=>rw[hc] at h2;exact .inr ⟨_,by rw[Ub rfl],by rw[h2];rfl⟩
  |false=>
   rw[hc,Tx,<-eu J] at h2
   exact .inl ⟨i+1,⟨hi,h2⟩,by omega,by rw[Ul oS]⟩
 ·have m:i=l.length:=by omega
  subst m
  rw[Uo] at h2
  exact .inr ⟨_,by simp only[ao,S2];rfl,by rw[h2];rfl⟩
theorem Km {D:List UInt8->Bool}:∀ (k:Nat) (l:List Sl) (b:List (List UInt8)) (g:Bool) (fu:Nat),Io D k l->b.length+50 * k<=400->k<=fu->dp fu l b g=some (EG k l (fun t=>b.contains t) g)
 |0,_,_,_,_,h,_,_=>h.elim
 |k+1,l,b,g,0,_,_,h=>by omega
 |k+1,l,b,g,fu+1,h,hb,hf=>by
  rw[pf];unfold xG;dsimp only;simp only[pe]
  have y:=h.len
  have s6:b.length<=400:=by omega
  have c:∀ (i:Nat) (e:Sl) (p:List Sl),l[i]?=some e->p.length<=50->(bJ (fun s:Int=>bif decide (s<(b.length:Int)) then(cm b s).bind fun F=>bif decide (F=ec e) then cb (cb (cb (cb (some true)))) else some (Sum.inl (IntKind.i64.wrap (s+1))) else cb (some (Sum.inl s))) 0).bind (bX fun _=>some (Sum.inl (p.map ec++[ec e],((i+1:Nat):Int))))=
    (if b.contains (ec e)=true then some (.inr (.inr true)) else some (.inl (p.map ec++[ec e],((i+1:Nat):Int))):Option ((List (List UInt8)×Int)⊕((List (List UInt8)×Int)⊕Bool))):=by
   intro i e p J hp
   refine mI (X:=Nat) (fun j=>(j:Int)) (fun j=>b.length - j) (fun j=>j<=b.length/\(b.take j).contains (ec e)=false) ?_ 0 ⟨To _,by simp⟩
   rintro j ⟨k1,k2⟩
   rcases Th j b.length with hj|hj
   ·obtain⟨q,hq⟩:=dY hj
    simp only[bg hj,SZ,ap,hq,SQ,bQ j oM]
    by_cases a:q=ec e
    ·refine .inr ⟨_,by rw[TG a];rfl, ?_⟩
     have:b.contains (ec e)=true:=by
      simp only[UF]
      rw[<-a];exact ST hq
     rw[this];rfl
    ·refine .inl ⟨j+1,⟨hj, ?_⟩,by omega,by rw[TW a];rfl⟩
     rw[eu hq]
     simp only[Ux,Ta,Td,Ts,not_or] at k2⊢
     exact⟨k2,fun h=>a h.symm⟩
   ·have m:j=b.length:=by omega
    subst m
    rw[TV] at k2
    refine .inr ⟨_,by simp only[ao,S2];rfl, ?_⟩
    rw[k2];rfl
  have r:∀ T,T=l.map ec->(bJ (fun u:Int=>bif decide (u<(l.length:Int)) then(cm l u).bind fun e=>bif decide (e.fName=[]) then some (Sum.inl (IntKind.i64.wrap (u+1))) else iZ (sf b.length) ((dP T ((some u).getD 0) ((none:Option Int).getD ((T.length:Nat):Int))).bind fun e=>iZ (sf (b.length+e.length)) ((cm l u).bind fun F=>(dp fu F.fItems (b++e) true).bind fun x=>bif x then cb (cb (some true)) else some (Sum.inl (IntKind.i64.wrap (u+1))))) else cb (some (Sum.inl u))) 0).bind (bX fun _=>some false)=some (LS (fun it n=>EG k it n true) (fun t=>b.contains t) l):=by
   rintro T rfl
   refine mI (X:=Nat) (fun i=>(i:Int)) (fun i=>l.length - i) (fun i=>i<=l.length/\LS (fun it n=>EG k it n true) (fun t=>b.contains t) l=LS (fun it n=>EG k it n true) (fun t=>b.contains t) (l.drop i)) ?_ 0 ⟨To _,rfl⟩
   rintro i ⟨k1,k2⟩
   rcases Th i l.length with hi|hi
   ·obtain⟨e,J⟩:=dY hi
    have Z:=ST J
    have z:=nI J
    rw[z] at k2
    simp only[LS] at k2
    simp only[bg hi,SZ,ap,J,SQ,bQ i oM]
    by_cases hn:e.fName=[]
    ·rw[TG hn] at k2⊢
     exact .inl ⟨i+1,⟨hi,by simpa using k2⟩,by omega,rfl⟩
    ·rw[TW hn] at k2⊢
     have u8:dP (l.map ec) ((some (i:Int)).getD 0) ((none:Option Int).getD (((l.map ec).length:Nat):Int))=some ((l.drop i).map ec):=by
      simp only[T8,TI,dP]
      rw[Ub ⟨by omega,by simp;omega,T1 _⟩]
      rw[T_ (List.map ec l).length,Tr (S0 _)]
      simp
     have h8:((l.drop i).map ec).length<=50:=by simp;omega
     have w:=Km k e.fItems (b++(l.drop i).map ec) true fu ((h.it Z).2 hn) (by rw[SW];omega) oM
     simp only[S2]
     rw[dc oM,u8]
     simp only[SQ]
     rw[dc oM,w]
     simp only[SQ]
     have hS:(fun t=>(b++(l.drop i).map ec).contains t)=fun t=>b.contains t||((e::l.drop (i+1)).map ec).contains t:=by
      funext t
      rw[<-z,Ti]
      simp only[UF,Ta,Tn]
     rw[hS]
     simp only[Tw,S8] at k2
     cases hc:EG k e.fItems (fun t=>b.contains t||((e::l.drop (i+1)).map ec).contains t) true with
     |true=>rw[hc] at k2;exact .inr ⟨_,rfl,by rw[k2];rfl⟩
     |false=>rw[hc] at k2;exact .inl ⟨i+1,⟨hi,by simpa using k2⟩,by omega,rfl⟩
   ·have m:i=l.length:=by omega
    subst m
    rw[Uo] at k2
    exact .inr ⟨_,by simp only[ao,S2];rfl,by rw[k2];rfl⟩
  refine mI (X:=Nat) (fun i=>((l.take i).map ec,(i:Int))) (fun i=>l.length - i) (fun i=>i<=l.length/\En (fun t=>b.contains t) g 0 (l.map ec)=En (fun t=>b.contains t) g i ((l.drop i).map ec)) ?_ 0 ⟨To _,rfl⟩
  rintro i ⟨k1,k2⟩
  rcases Th i l.length with hi|hi
  ·obtain⟨e,J⟩:=dY hi
   have o:(l.take i).length<=50:=by rw[Tc];omega
   rw[nI J] at k2
   simp only[S5,En] at k2
   simp only[bg hi,SZ,ap,J,SQ,bQ i oM,fj,QO]
   rw[dc (by simp only[TO,Tq];omega)]
   simp only[aY,SQ]
   have h2:decide ((i:Int)=0)=decide (i=0):=by congr 1;apply propext;omega
   rw[h2]
   have L:(l.take (i+1)).map ec=(l.take i).map ec++[ec e]:=by rw[eu J];simp
   cases hg:(g&&decide (i=0)) with
   |true=>
    rw[hg] at k2
    exact .inl ⟨i+1,⟨hi,by simpa using k2⟩,by omega,by rw[L];rfl⟩
   |false=>
    rw[hg] at k2
    simp only[S2]
    rw[c i e (l.take i) J o]
    cases hc:b.contains (ec e) with
    |true=>
     rw[hc] at k2
     refine .inr ⟨_,by rw[Ub rfl], ?_⟩
     unfold EG
     rw[k2];rfl
    |false=>
     rw[hc] at k2
     exact .inl ⟨i+1,⟨hi,by simpa using k2⟩,by omega,by rw[Ul oS,L]⟩
  ·have m:i=l.length:=by omega
   subst m
   rw[Uo] at k2
   rw[TV]
   refine .inr ⟨_,by simp only[ao,S2];rfl, ?_⟩
   simp only[bX]
   rw[Kl _ oT]
   unfold EG
   rw[k2]
   simp only[SQ,Ui,En,Tx]
   cases hd:jp [] (l.map ec) with
   |true=>rfl
   |false=>
    simp only[S2,Tx]
    exact r _ rfl
def LT (s:aj):Int:=
 if ed s.fKind=false\/ed s.fVersion=false then 5
 else if vc s.fDefs≠0 then vc s.fDefs
 else if(uf (aK s.fDefs) 8 s.fItems 0 0).1≠0 then(uf (aK s.fDefs) 8 s.fItems 0 0).1
 else if jp [] (wA 8 s.fItems)=true then 7
 else if EG 8 s.fItems (fun _=>false) false=true then 12
 else 0
structure Rf (s:aj):Prop where
 kind:s.fKind.length<=MX
 version:s.fVersion.length<=MX
 tags:∀ d∈s.fDefs,d.fTag.length<=MX
 items:∀ x∈s.fItems,Hi x
theorem Ep {l:List Df} (h:vc l=0):l.length<=100:=by
 unfold vc at h
 split at h
 ·cases h
 ·omega
theorem E0 (s:aj) (h:Rf s):fq s=some (LT s):=by
 have d:=vw
 unfold fq xK;dsimp only
 rw[G4 _ h.kind,G4 _ h.version,QR _ h.tags]
 simp only[SQ,bR]
 unfold LT
 by_cases c1:ed s.fKind=false\/ed s.fVersion=false
 ·rw[Ub c1,show(!ed s.fKind|| !ed s.fVersion)=true by simpa using c1];rfl
 rw[Ul c1,show(!ed s.fKind|| !ed s.fVersion)=false by simpa using c1]
 simp only[S2]
 by_cases z:vc s.fDefs=0
 ·rw[Ul (not_not_intro z),TG z]
  have w1:=Ep z
  have c:=Kj s oM 8 0 s.fItems 0 FU oM oM oM oM oM h.items
  rw[show((0:Nat):Int)=0 from rfl] at c
  rw[c]
  simp only[S7,S2,SQ]
  by_cases u:(uf (aK s.fDefs) 8 s.fItems 0 0).1=0
  ·rw[Ul (not_not_intro u),TG u]
   obtain⟨k1,k2⟩:=yf _ 8 s.fItems 0 0 u
   have k3:=(AD _ 8 (l:=s.fItems) (a:=0) (many:=0) oM oM u).2
   have b:ye 8 s.fItems<=300:=by omega
   have s1:=Jv 8 s.fItems
   rw[Kk 8 s.fItems FU k1 b oM]
   simp only[S7,S2,SQ]
   rw[Kl _ oM,Km 8 s.fItems [] false FU k1 oS oM]
   simp only[SQ]
   have hS:(fun t=>([]:List (List UInt8)).contains t)=fun _=>false:=by funext t;simp
   rw[hS]
   cases jp [] (wA 8 s.fItems) with
   |true=>rfl
   |false=>
    cases EG 8 s.fItems (fun _=>false) false<;>rfl
  ·rw[Ub u,TW u];rfl
 ·rw[Ub z,TW z];rfl
theorem Iw {s:af} (h:Jt s=0):v_ s:=by
 obtain⟨h1,h2⟩:=PT h
 exact⟨by omega,fun e J=>⟨by have:=(h2 e J).1;omega,fun p hp=>by have:=((h2 e J).2 p hp).1;omega⟩⟩
theorem Ez (l:List (List UInt8)) (hl:l.length<=137438953472):ga l l=some true:=by
 unfold ga nq;dsimp only
 simp only[Ue,S7,S2]
 refine b6 (a:= .inl (l.length:Int)) (ta (fun i=>(i:Int)) l.length (fun i hi=> ?_) ?_) rfl
 ·obtain⟨e,J⟩:=dY hi
  simp only[bg hi,SZ,ap,J,SQ,Ue,S7,S2,bQ i oM]
 ·simp only[ao,S2];rfl
theorem Hb (x:af) (hx:v_ x):ft x x=some true:=by
 obtain⟨h1,h2⟩:=hx
 unfold ft nr;dsimp only
 simp only[Ue,S7,bR,Bool.or_self,SQ,S2]
 refine b6 (a:= .inl (x.fElements.length:Int)) (ta (fun i=>(i:Int)) x.fElements.length (fun i hi=> ?_) ?_) rfl
 ·obtain⟨e,J⟩:=dY hi
  obtain⟨E,h4⟩:=h2 e (ST J)
  simp only[bg hi,SZ,ap,J,SQ,Ue,S7,S2,bQ i oM]
  refine b6 (a:= .inl (e.fRepeats.length:Int)) (ta (fun i=>(i:Int)) e.fRepeats.length (fun k hk=> ?_) ?_) rfl
  ·obtain⟨p,hp⟩:=dY hk
   simp only[bg hk,SZ,ap,hp,SQ,Ez p (h4 p (ST hp)),S7,S2,bQ k oM]
  ·simp only[ao,S2];rfl
 ·simp only[ao,S2];rfl
theorem E9 (l:List af) (hl:l.length<=137438953472) (hx:∀ x∈l,v_ x):e5 l l=some true:=by
 unfold e5 xP;dsimp only
 simp only[Ue,S7,S2]
 refine b6 (a:= .inl (l.length:Int)) (ta (fun i=>(i:Int)) l.length (fun i hi=> ?_) ?_) rfl
 ·obtain⟨e,J⟩:=dY hi
  simp only[bg hi,SZ,ap,J,SQ,Hb e (hx e (ST J)),S7,S2,bQ i oM]
 ·simp only[ao,S2];rfl
def ne:Nat->List Br->List af
 |0,_=>[]
 |d+1,l=>l.flatMap fun b=>if b.fName=[] then[b.fSegment] else ne d b.fKids
theorem F9 (d:Nat) (l:List Br):ne (d+1) l=l.flatMap fun b=>if b.fName=[] then[b.fSegment] else ne d b.fKids:=rfl
theorem ve:∀ (d:Nat) (l:List Br),(ne d l).length=fb d l
 |0,_=>rfl
 |d+1,l=>by
  unfold ne fb
  rw[List.length_flatMap]
  congr 1
  apply T3
  intro b _
  split
  ·rfl
  ·exact ve d b.fKids
theorem Kz:∀ (d:Nat) {l:List Br},LK d l->∀ s∈ne d l,Jt s=0
 |0,_,_,_,h=>by cases h
 |d+1,l,f,s,h=>by
  unfold ne at h
  obtain⟨b,hb,hs⟩:=List.mem_flatMap.1 h
  rcases f b hb with hl|⟨hn, -, -,hk⟩
  ·rw[Ub hl.1,Td] at hs
   rw[hs];exact hl.2.1
  ·rw[Ul hn] at hs
   exact Kz d hk s hs
theorem NV:∀ (d fu:Nat) {l:List Br} (g:List af),d<fu->LK d l->g.length+fb d l<=100000->pF fu g l=some (g++ne d l)
 |_,0,_,_,h,_,_=>by omega
 |d,fu+1,l,g,hd,f,hB=>by
  have h8:=wc d f
  rw[zw];unfold xR;dsimp only;simp only[zv]
  rw[show(g,(0:Int))=(g++ne d [],((0:Nat):Int)) by cases d<;>simp[ne]]
  refine b6 (ls l (fun i pre=>(g++ne d pre,(i:Int))) (a:=(Sum.inl (g++ne d l,(l.length:Int)):(List af×Int)⊕List af)) (fun i e J=> ?_) ?_) rfl
  ·have hi:=bM J
   have Z:=ST J
   cases d with
   |zero=>rw[show l=[] from f] at Z;cases Z
   |succ d=>
    have hs:ne (d+1) (l.take i++[e])=ne (d+1) (l.take i)++(if e.fName=[] then[e.fSegment] else ne d e.fKids):=by
     simp only[F9,UM,UV,List.flatMap_nil,Tg]
    have h1:=Eo (fun b:Br=>if b.fName=[] then[b.fSegment] else ne d b.fKids) l (i+1)
    rw[eu J] at h1
    change (ne (d+1) (l.take i++[e])).length<=(ne (d+1) l).length at h1
    rw[hs,ve,SW] at h1
    simp only[bg hi,SZ,ap,J,SQ,bQ i oM,hs]
    rcases f e Z with hl|⟨hn, -, -,hk⟩
    ·rw[Ub hl.1] at h1⊢
     rw[TG hl.1,SZ]
     have hc:oy e.fSegment=some e.fSegment:=by unfold oy;rw[Ub (Iw hl.2.1)]
     rw[hc,SQ,dc (by simp only[SW,Tq] at h1⊢;omega),S4]
    ·rw[Ul hn] at h1⊢
     rw[TW hn,S2,NV d fu (g++ne (d+1) (l.take i)) oM hk (by rw[SW,<-ve d e.fKids];omega),SQ,S4]
  ·simp only[ao,S2];rfl
theorem NW:∀ (d fu:Nat) {l:List Br},d<fu->LK d l->fb d l<=100000->gc fu l=some (ne d l)
 |_,0,_,h,_,_=>by omega
 |d,fu+1,l,hd,f,hB=>by
  have h8:=wc d f
  rw[rJ];unfold xS;dsimp only;simp only[rI]
  rw[show(([]:List af),(0:Int))=(ne d [],((0:Nat):Int)) by cases d<;>simp[ne]]
  refine b6 (ls l (fun i pre=>(ne d pre,(i:Int))) (a:=(Sum.inl (ne d l,(l.length:Int)):(List af×Int)⊕List af)) (fun i e J=> ?_) ?_) rfl
  ·have hi:=bM J
   have Z:=ST J
   cases d with
   |zero=>rw[show l=[] from f] at Z;cases Z
   |succ d=>
    have hs:ne (d+1) (l.take i++[e])=ne (d+1) (l.take i)++(if e.fName=[] then[e.fSegment] else ne d e.fKids):=by
     simp only[F9,UM,UV,List.flatMap_nil,Tg]
    have h1:=Eo (fun b:Br=>if b.fName=[] then[b.fSegment] else ne d b.fKids) l (i+1)
    rw[eu J] at h1
    change (ne (d+1) (l.take i++[e])).length<=(ne (d+1) l).length at h1
    rw[hs,ve,SW] at h1
    simp only[bg hi,SZ,ap,J,SQ,bQ i oM,hs]
    rcases f e Z with hl|⟨hn, -, -,hk⟩
    ·rw[Ub hl.1] at h1⊢
     rw[TG hl.1,SZ,dc (by simp only[Tq] at h1⊢;omega)]
    ·rw[Ul hn] at h1⊢
     rw[TW hn,S2,NW d fu oM hk (by rw[<-ve];omega),SQ,dc oM]
  ·simp only[ao,S2];rfl
def PW (l:List Br):List af×Int:=if(rV 8 l 0 0).1=0 then(ne 7 l,0) else([],(rV 8 l 0 0).1)
theorem Q1 (l:List Br) (hl:∀ b∈l,EH b) (h8:l.length<=MX):un l=some (PW l):=by
 have d:=vw
 unfold un nu;dsimp only
 unfold PW
 rw[CS l hl h8,SQ]
 by_cases h:(rV 8 l 0 0).1=0
 ·obtain⟨h1,h2⟩:=AJ h
  rw[Ub h,TG h]
  simp only[S7,S2]
  rw[NV 7 FU [] oM h1 oT];rfl
 ·rw[Ul h,TW h];rfl
theorem Q2 (l:List Br) (hl:∀ b∈l,EH b) (h8:l.length<=MX):jO l=some (PW l):=by
 have d:=vw
 unfold jO nu;dsimp only
 unfold PW
 rw[G_ l hl h8,SQ]
 by_cases h:(rV 8 l 0 0).1=0
 ·obtain⟨h1,h2⟩:=AJ h
  rw[Ub h,TG h]
  simp only[S7,S2]
  rw[NW 7 FU oM h1 oM];rfl
 ·rw[Ul h,TW h];rfl
theorem Q3 (l:List Br):(PW l).1.length<=2000/\∀ s∈(PW l).1,Jt s=0:=by
 unfold PW
 split
 ·rename_i h
  obtain⟨h1,h2⟩:=AJ h
  exact⟨by rw[ve];exact h2,Kz 7 h1⟩
 ·exact⟨by simp,fun s hs=>by cases hs⟩
end Go.Proofs.YteaolfcegaidpaaGreatDoor
