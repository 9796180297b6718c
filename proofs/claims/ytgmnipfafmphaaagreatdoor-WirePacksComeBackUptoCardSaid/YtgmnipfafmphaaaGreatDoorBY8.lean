/-
  Texts of mine, one behind the other (SYAU1, SYAN, SYAU2, SYAU3, SYAU4, SYAU5, SYSO1, SYSO2, SYSO3, SYSO4, SYSO5, SYSO6, SYAU6, SYAT1).
-/
import Derived.Test.YtgmnipfafmphaaaGreatDoorBY2
import Derived.Test.YtgmnipfafmphaaaGreatDoorBY6
import Derived.Test.YtgmnipfafmphaaaGreatDoorBY7
import Derived.Test.YtgmnipfafmphaaaGreatDoorSYEngRk
namespace Go.Proofs.YtgmnipfafmphaaaGreatDoor
open Go.RowKit
set_option linter.unusedSimpArgs false
set_option linter.unusedVariables false
variable {e:aj} {es:List aj} {l:List UInt8}
def Dz (b:UInt8):Bool:= !(decide ((b.toNat:Int)<48)||decide (57<(b.toNat:Int)))
theorem qW (b:UInt8):Dz b=true↔48<=b.toNat/\b.toNat<=57:=by
 unfold Dz
 simp only[TI,TS,Tk]
 omega
def Pq:List UInt8->Bool
 |b::_=>decide ((b.toNat:Int)=48)
 |[]=>false
def fB (l:List UInt8):Bool:= !decide (l=[])&& !decide (9<(l.length:Int))&&l.all Dz&& !(decide (1<(l.length:Int))&&Pq l)
noncomputable def kj (l:List UInt8):Int:=(eE l).getD 0
theorem vL:∀ (l:List UInt8) (a:Nat),l.all Dz=true->∃ n,Lib.decFrom a l=some n
 |[],a,_=>⟨a,rfl⟩
 |b::l,a,h=>by
  simp only[Uk,SR] at h
  obtain⟨n,hn⟩:=vL l (a * 10+(b.toNat - 48)) h.2
  refine⟨n, ?_⟩
  unfold Lib.decFrom Lib.digitVal
  rw[U4 ((qW b).1 h.1)]
  exact hn
theorem EY (h1:l≠[]) (h2:l.length<=18) (E:l.all Dz=true):∃ n:Nat,eE l=some (n:Int):=by
 unfold eE
 rw[U4 h2]
 cases l with
 |nil=>exact absurd rfl h1
 |cons b r=>
  have hb:=(qW b).1 (by simp only[Uk,SR] at E;exact E.1)
  obtain⟨n,hn⟩:=vL (b::r) 0 E
  refine⟨n, ?_⟩
  have e1:(b==45)=false:=by rw[UW];rintro rfl;revert hb;decide
  have e2:(b==43)=false:=by rw[UW];rintro rfl;revert hb;decide
  have e3:Lib.decNat (b::r)=some n:=by unfold Lib.decNat;rw[if_neg oS];exact hn
  simp only[Lib.atoi,e1,e2,e3]
  rfl
theorem HP (h1:l≠[]) (h2:l.length<=18) (E:l.all Dz=true):eE l=some (kj l):=by
 obtain⟨n,hn⟩:=EY h1 h2 E
 unfold kj
 rw[hn];rfl
theorem ye (h:fB l=true):0<=kj l:=by
 unfold fB at h
 simp only[SR,TI,Tk] at h
 obtain⟨n,hn⟩:=EY h.1.1.1 oM h.1.2
 unfold kj
 rw[hn];simp
theorem Nf (l:List UInt8) (hl:l.length<=MX):j1 l (UInt8.ofNat (Int.toNat 48)) (UInt8.ofNat (Int.toNat 57))=some (l.all Dz):=by
 have M:((UInt8.ofNat (Int.toNat 48)).toNat:Int)=48:=by decide
 have a2:((UInt8.ofNat (Int.toNat 57)).toNat:Int)=57:=by decide
 unfold MX at hl
 unfold j1 f3;dsimp only
 refine(x_ l Dz false (fun i e he=> ?_) (by simp only[aB,S7];rfl)).trans ?_
 ·have hi:=cB he
  simp only[br hi,S4,aw,he,SQ,bT,bB i oM,M,a2]
  unfold Dz
  cases(decide ((e.toNat:Int)<48)||decide (57<(e.toNat:Int)))<;>rfl
 ·cases l.all Dz<;>rfl
theorem OY (l:List UInt8) (hl:l.length<=MX):lZ l 9=some (if fB l=true then(kj l,true) else(0,false)):=by
 have hd:jh l=some (!decide (l=[])&&l.all Dz):=by
  unfold jh aZ;dsimp only
  rw[Nf l hl]
  simp only[SQ,cx]
 unfold lZ ee;dsimp only
 rw[hd]
 unfold fB
 cases l with
 |nil=>rfl
 |cons b r=>
  have hg:b4 (b::r) 0=some b:=rfl
  simp only[hg,SQ,bT,cx,Pq,show decide (b::r=[])=false from rfl,Tm,T1]
  cases h1:decide (9<((b::r).length:Int)) with
  |true=>rfl
  |false=>
  cases h2:(b::r).all Dz with
  |false=>rfl
  |true=>
  cases E:(decide (1<((b::r).length:Int))&&decide ((b.toNat:Int)=48)) with
  |true=>rfl
  |false=>
   simp only[S9,UB,Tm,UX,S7,TB]
   rw[HP oS (by have:=of_decide_eq_false h1;omega) h2]
   rfl
def fh (e:aj):Bool:=match e.fRepeats with|[[_]]=>true|_=>false
def firstT (e:aj):List UInt8:=match e.fRepeats with|(t::_)::_=>t|_=>[]
def zM (es:List aj):Prop:=es.length<=50/\∀ e∈es,mr e=0
theorem IW {t:List UInt8} (h:kd t=0):t.length<=1000:=by
 unfold kd at h
 split at h
 ·cases h
 ·omega
theorem zN (h:mr e=0):∃ t ts rs,e.fRepeats=(t::ts)::rs/\t.length<=1000:=by
 unfold mr at h
 split at h
 ·cases h
 ·split at h
  ·cases h
  ·cases D:e.fRepeats with
   |nil=>rename_i h1 _;rw[D] at h1;exact absurd rfl h1
   |cons r rs=>
    rw[D] at h
    have h1:=fc h r oS
    unfold ya at h1
    split at h1
    ·cases h1
    ·split at h1
     ·cases h1
     ·cases r with
      |nil=>rename_i h2 _;exact absurd rfl h2
      |cons t ts=>exact⟨t,ts,rs,rfl,IW (fc h1 t oS)⟩
theorem uT (h:zM es):∀ t∈es.map firstT,t.length<=MX:=by
 intro t ht
 obtain⟨e,he,rfl⟩:=Tp.1 ht
 obtain⟨u,R,rs,D,hl⟩:=zN (h.2 e he)
 unfold firstT MX
 rw[D];simp only;omega
theorem Pr (h:mr e=0):∃ r,b4 e.fRepeats 0=some r/\b4 r 0=some (firstT e)/\(decide ((e.fRepeats.length:Int)=1)&&decide ((r.length:Int)=1))=fh e:=by
 obtain⟨t,ts,rs,D, -⟩:=zN h
 refine⟨t::ts,by rw[D];rfl,by unfold firstT;rw[D];rfl, ?_⟩
 unfold fh
 rw[D]
 cases rs<;>cases ts<;>simp<;>omega
noncomputable def Ps (es:List aj):List (List UInt8)×Bool:=if es.all fh=true then(es.map firstT,true) else([],false)
theorem vM (tag:List UInt8) (h:zM es):jv ⟨tag,es⟩=some (Ps es):=by
 unfold jv aZ;dsimp only
 unfold Ps
 have key:=wS (X:=Nat) (k:=c3 fun s=>some (s.1,true)) (c:=some (if es.all fh=true then(es.map firstT,true) else([],false)))
  (f:=fun s:List (List UInt8)×Int=>bif decide (s.2<(es.length:Int)) then(b4 es s.2).bind fun e=>(LG (!decide ((e.fRepeats.length:Int)=1)) ((b4 e.fRepeats 0).bind fun e=>some !decide ((e.length:Int)=1))).bind fun v=>
   bif v then h_ (h_ (some ([],false))) else(b4 e.fRepeats 0).bind fun e=>(b4 e 0).bind fun e=>mh (lG (s.1.length+[e].length)) (some (.inl (s.1++[e],IntKind.i64.wrap (s.2+1)))) else h_ (some (.inl (s.1,s.2))))
  (fun i=>((es.take i).map firstT,(i:Int))) (fun i=>es.length - i) (fun i=>i<=es.length/\(es.take i).all fh=true) (by
  rintro i ⟨hi,hs⟩
  rcases Ty i es.length with h1|h1
  ·obtain⟨e,he⟩:=eF h1
   have Z:=h.2 e (SW he)
   obtain⟨r,r1,r2,r3⟩:=Pr Z
   have hl:lG (((es.take i).map firstT).length+[firstT e].length)=some ():=by
    unfold lG
    have:=h.1
    rw[U4 (by simp only[TL,Th,ST,S3];omega)]
   have hd:(!decide ((e.fRepeats.length:Int)=1)|| !decide ((r.length:Int)=1))= !fh e:=by rw[<-r3,Bool.not_and]
   cases b:fh e with
   |true=>
    refine .inl ⟨i+1,⟨h1,by rw[nW he,List.all_append,hs];simp[b]⟩,by omega, ?_⟩
    simp only[br h1,S4,aw,he,SQ,r1,bT,hd,b,S9,S7,r2,mh,hl,bB i (by have:=h.1;omega)]
    rw[nW he,TY];rfl
   |false=>
    refine .inr ⟨.inr ([],false), ?_, ?_⟩
    ·simp only[br h1,S4,aw,he,SQ,r1,bT,hd,b,Tm,S4]
     rfl
    ·have:es.all fh=false:=by
      rw[List.all_eq_false]
      exact⟨e,SW he,by simp[b]⟩
     rw[this];rfl
  ·have:i=es.length:=by omega
   subst this
   refine .inr ⟨.inl (es.map firstT,(es.length:Int)), ?_, ?_⟩
   ·simp only[aB,S7,UJ];rfl
   ·rw[UJ] at hs
    rw[hs];rfl) 0 ⟨TK _,rfl⟩
 exact key
def n3 (es:List aj):List UInt8:=match es with|[]=>[]|e::_=>firstT e
def EZ (es:List aj):Bool:=match es with|[]=>false|e::_=>fh e&&dU (firstT e)
theorem Ng (s:aa) (h:zM s.fElements):rx s=some (n3 s.fElements):=by
 unfold rx ee;dsimp only
 unfold uK aZ;dsimp only
 have w0:IntKind.i64.wrap ((1:Int) - 1)=0:=by rw[bh _ oM oM];omega
 cases hs:s.fElements with
 |nil=>rfl
 |cons e es=>
  rw[hs] at h
  obtain⟨t,ts,rs,D, -⟩:=zN (h.2 e oS)
  have H:decide (((e::es).length:Int)<1)=false:=by simp only[ST,Tk];omega
  have d2:decide ((((t::ts)::rs).length:Int)<1)=false:=by simp only[ST,Tk];omega
  have q:decide (((t::ts).length:Int)<1)=false:=by simp only[ST,Tk];omega
  have g1:b4 (e::es) 0=some e:=rfl
  have g2:b4 ((t::ts)::rs) 0=some (t::ts):=rfl
  have g3:b4 (t::ts) 0=some t:=rfl
  simp only[H,S7,w0,g1,SQ,D,d2,g2,q,bT,UB,g3]
  have:firstT e=t:=by unfold firstT;rw[D]
  show some t=some (firstT e)
  rw[this]
theorem QZ (s:aa) (h:zM s.fElements):pu s=some (EZ s.fElements):=by
 unfold pu ee;dsimp only
 cases hs:s.fElements with
 |nil=>rfl
 |cons e es=>
  rw[hs] at h
  have H:decide (((e::es).length:Int)=0)=false:=by simp only[ST,Tk];omega
  have g1:cz (e::es) ((none:Option Int).getD 0) ((some 1).getD ((e::es).length:Int))=some [e]:=by
   unfold cz
   rw[U4 ⟨by simp,by simp,by simp only[TU,ST];omega⟩]
   rfl
  have ho:zM [e]:=⟨by simp,fun x hx=>by rw[Tj.1 hx];exact h.2 e oS⟩
  rw[H]
  simp only[S7,g1,SQ]
  rw[vM [] ho]
  have I:=uT ho (firstT e) oS
  unfold Ps EZ
  simp only[Uk,List.all_nil,Bool.and_true]
  cases b:fh e with
  |false=>rfl
  |true=>
   have g2:b4 ([e].map firstT) 0=some (firstT e):=rfl
   simp only[TB,SQ,g2,qR _ I,cx,T1]
variable {l:List UInt8}
theorem qS (b:UInt8):∀ (l:List UInt8) (a:Nat),Lib.decFrom a (l++[b])=(Lib.decFrom a l).bind fun n=>(Lib.digitVal b).map fun d=>n * 10+d
 |[],a=>by
  show Lib.decFrom a [b]=_
  unfold Lib.decFrom
  cases Lib.digitVal b<;>rfl
 |x::l,a=>by
  show Lib.decFrom a (x::(l++[b]))=_
  unfold Lib.decFrom
  cases Lib.digitVal x with
  |none=>rfl
  |some d=>exact qS b l _
theorem M5 {b:UInt8} (h:Dz b=true):Lib.digitVal b=some (b.toNat - 48):=by
 unfold Lib.digitVal
 rw[U4 ((qW b).1 h)]
theorem EQ (h1:l≠[]) (h2:l.length<=18) (E:l.all Dz=true):eE l=Option.map (fun n:Nat=>(n:Int)) (Lib.decFrom 0 l):=by
 unfold eE
 rw[U4 h2]
 cases l with
 |nil=>exact absurd rfl h1
 |cons b r=>
  have hb:=(qW b).1 (by simp only[Uk,SR] at E;exact E.1)
  have e1:(b==45)=false:=by rw[UW];rintro rfl;revert hb;decide
  have e2:(b==43)=false:=by rw[UW];rintro rfl;revert hb;decide
  have e3:Lib.decNat (b::r)=Lib.decFrom 0 (b::r):=by unfold Lib.decNat;rw[if_neg oS]
  simp only[Lib.atoi,e1,e2,e3]
  rfl
theorem M6 {α:Type} {l:List α} (h:l≠[]):∃ p a,l=p++[a]:=by
 rcases Uy l with h1|⟨p,a,h1⟩
 ·exact absurd h1 h
 ·exact⟨p,a,by rw[h1,Uz]⟩
theorem HK {m:List UInt8} (h:l≠[]):Pq (l++m)=Pq l:=by
 cases l with
 |nil=>exact absurd rfl h
 |cons b l=>rfl
theorem ER (d:Nat) (h:d<10):Dz (UInt8.ofNat (48+d))=true/\(UInt8.ofNat (48+d)).toNat=48+d:=by
 have h2:(UInt8.ofNat (48+d)).toNat=48+d:=by simp;omega
 exact⟨(qW _).2 oM,h2⟩
structure DD (u:Nat) (l:List UInt8):Prop where
 val:Lib.decFrom 0 l=some u
 dig:l.all Dz=true
 ne:l≠[]
 lead:1<=u->Pq l=false
 zero:u=0->l.length=1
theorem QV (u:Nat):DD u (Lib.decDigits u):=by
 induction u using Nat.strongRecOn with
 |_ u ih=>
  by_cases h:u<10
  ·obtain⟨h1,h2⟩:=ER u h
   rw[Lib.decDigits,dif_pos h]
   refine⟨?_,by rw[Uk,h1];rfl,by simp,fun h0=> ?_,fun _=>rfl⟩
   ·unfold Lib.decFrom
    rw[M5 h1,h2]
    show Lib.decFrom _ []=_
    unfold Lib.decFrom
    congr 1;omega
   ·show decide (((UInt8.ofNat (48+u)).toNat:Int)=48)=false
    rw[h2];exact TZ oM
  ·obtain⟨k1,k2,k3,k4,k5⟩:=ih (u/10) oM
   obtain⟨h1,h2⟩:=ER (u%10) (Nat.mod_lt _ oD)
   rw[Lib.decDigits,dif_neg h]
   refine⟨?_,by rw[List.all_append,k2,Uk,h1];rfl,by simp,fun _=> ?_,fun h0=>by omega⟩
   ·rw[qS,k1,M5 h1,h2]
    simp only[SQ,Uf]
    congr 1;omega
   ·rw[HK k3];exact k4 oM
theorem vJ:∀ (k:Nat) (l:List UInt8) (n:Nat),l.length=k+1->l.all Dz=true->(1<l.length->Pq l=false)->Lib.decFrom 0 l=some n->Lib.decDigits n=l
 |0,l,n,hl,hd,_,hv=>by
  match l,hl with
  |[b],_=>
   have hb:Dz b=true:=by simpa using hd
   have hi:=(qW b).1 hb
   unfold Lib.decFrom at hv
   rw[M5 hb] at hv
   have hv:Lib.decFrom (0 * 10+(b.toNat - 48)) []=some n:=hv
   unfold Lib.decFrom at hv
   cases hv
   rw[Lib.decDigits,dif_pos oM]
   congr 1
   apply Up.1
   simp;omega
 |k+1,l,n,hl,hd,hh,hv=>by
  obtain⟨l',b,rfl⟩:=M6 (l:=l) (by rintro rfl;simp at hl)
  have f:l'.length=k+1:=by simpa using hl
  have U:l'≠[]:=by rintro rfl;simp at f
  simp only[List.all_append,Uk,List.all_nil,Bool.and_true,SR] at hd
  have h8:Pq l'=false:=by rw[<-HK (m:=[b]) U];exact hh (by rw[hl];omega)
  obtain⟨n',A⟩:=vL l' 0 hd.1
  have ih:=vJ k l' n' f hd.1 (fun _=>h8) A
  have hi:=(qW b).1 hd.2
  rw[qS,A,M5 hd.2] at hv
  simp only[SQ,Uf,SN] at hv
  have h1:1<=n':=by
   rcases U0 n' with rfl|h
   ·rw[<-ih,Lib.decDigits,dif_pos oD] at h8
    exact absurd h8 oD
   ·exact h
  rw[Lib.decDigits,dif_neg oM,show n/10=n' by omega,ih]
  congr 1
  congr 1
  apply Up.1
  simp;omega
theorem uv:∀ (k u:Nat),u<10^(k+1)->(Lib.decDigits u).length<=k+1
 |0,u,h=>by
  rw[Lib.decDigits,dif_pos (by simpa using h)];simp
 |k+1,u,h=>by
  by_cases o:u<10
  ·rw[Lib.decDigits,dif_pos o];simp
  ·rw[Lib.decDigits,dif_neg o,SS]
   have:=uv k (u/10) (by rw[Nat.pow_succ] at h;omega)
   simp;omega
theorem n1 {t:Int} (h0:0<=t) (h1:t<=999999999):fB (Lib.itoa t)=true/\kj (Lib.itoa t)=t/\∀ b∈Lib.itoa t,Dz b=true:=by
 obtain⟨u,rfl⟩:∃ u:Nat,t=(u:Int):=⟨t.toNat,by omega⟩
 rw[Lib.itoa_nonneg]
 obtain⟨k1,k2,k3,k4,k5⟩:=QV u
 have hl:=uv 8 u (by
                  have:(10:Nat)^(8+1)=1000000000:=by decide
                  omega)
 refine⟨?_, ?_,fun b hb=>Ti.1 k2 b hb⟩
 ·unfold fB
  rw[TZ k3,TZ oM,k2]
  rcases U0 u with hu|hu
  ·rw[TZ (by have:=k5 hu;omega)];rfl
  ·rw[k4 hu];simp
 ·unfold kj
  rw[EQ k3 oM k2,k1];rfl
theorem zH {a:List UInt8} (h:fB a=true):Lib.itoa (kj a)=a:=by
 have h':=h
 unfold fB at h
 simp only[SR,TI,Tk] at h
 obtain⟨⟨⟨h1,h2⟩,E⟩,h4⟩:=h
 obtain⟨n,hn⟩:=vL a 0 E
 have hv:kj a=(n:Int):=by unfold kj;rw[EQ h1 oM E,hn];rfl
 rw[hv,Lib.itoa_nonneg]
 refine vJ (a.length - 1) a n (by
                       have:a.length≠0:=fun e=>h1 (Ta.1 e)
                       omega) E (fun hl=> ?_) hn
 simp only[Bool.and_eq_false_iff,Tk] at h4
 rcases h4 with h4|h4
 ·omega
 ·exact h4
noncomputable section
theorem HQ (m:Option Bool):LG true m=some true:=rfl
theorem E0 (m:Option Bool):LG false m=m:=rfl
theorem KC (m:Option Bool):m8 true m=m:=rfl
theorem KD (m:Option Bool):m8 false m=some false:=rfl
def fy:List UInt8:=[73,72,68]
def lm:List UInt8:=[71,72,68]
def kl:List UInt8:=[77,72,68]
def uh:List UInt8:=[73,84,82]
def yQ:List UInt8:=[71,84,82]
def xg:List UInt8:=[77,84,82]
def CA (l:List UInt8):Bool:=fB l&&decide (1<=kj l)&&decide (kj l<=3652059)
def CB (l:List UInt8):Bool:=fB l&&decide (kj l<=86399)
def IX:List (List UInt8)->Bool
 |[a,b]=>dU a&&cH b
 |_=>false
def IY:List (List UInt8)->Bool
 |[a,b,c]=>dU a&&cH b&&cH c
 |_=>false
def IZ:List (List UInt8)->Bool
 |[a,b,c,d,e,f]=>dU a&&cH b&&cH c&&CA d&&CB e&&(decide (f=[])||decide (f=[49]))
 |_=>false
def EP (s:aa):Bool:=s.fElements.all fh&&(if s.fTag=lm then IX (s.fElements.map firstT) else if s.fTag=kl then IY (s.fElements.map firstT) else IZ (s.fElements.map firstT))
theorem KE (n lo hi:Int):j9 n lo hi=some (decide (n<lo)||decide (hi<n)):=by
 unfold j9 aZ;dsimp only
 simp only[bT,SQ]
theorem Px (n:Int):ng n=some (decide (1<=n)&&decide (n<=3652059)):=by
 unfold ng ee;dsimp only
 rw[KE]
 simp only[SQ]
 congr 1
 rw[TV];simp
theorem KF {l:List UInt8} (hl:l.length<=MX):∃ n,lZ l 9=some (n,fB l)/\(fB l=true->n=kj l):=by
 rw[OY l hl]
 cases h:fB l with
 |true=>exact⟨_,by simp,fun _=>rfl⟩
 |false=>exact⟨0,by simp,fun h=>by cases h⟩
theorem Ni (s:aa) (h:zM s.fElements):pv s=some (EP s):=by
 obtain⟨tag,es⟩:=s
 have hl:=uT h
 have ht:=vM tag h
 unfold pv tq;dsimp only
 simp only at h hl ht
 rw[ht]
 unfold EP Ps
 simp only
 cases hs:es.all fh with
 |false=>rfl
 |true=>
  simp only[TB,SQ,S9,E0,T1]
  generalize es.map firstT=ts at hl
  cases ts with
  |nil=>
   simp only[HQ,SQ,show decide ((([]:List (List UInt8)).length:Int)=0)=true from rfl,S4,IX,IY,IZ]
   split
   ·rfl
   ·split<;>rfl
  |cons a ts=>
   have H:decide (((a::ts).length:Int)=0)=false:=by simp only[ST,Tk];omega
   have g0:b4 (a::ts) 0=some a:=rfl
   have j:=qR a (hl a oS)
   simp only[H,E0,SQ,g0,j]
   cases i:dU a with
   |false=>
    simp only[Tm,S4]
    cases ts with
    |nil=>simp only[IX,IY,IZ,ite_self]
    |cons b ts=>
     cases ts with
     |nil=>simp[IX,IY,IZ,i]
     |cons c ts=>
      cases ts with
      |nil=>simp[IX,IY,IZ,i]
      |cons d ts=>
       cases ts with
       |nil=>simp[IX,IY,IZ,i]
       |cons e ts=>
        cases ts with
        |nil=>simp[IX,IY,IZ,i]
        |cons f ts=>cases ts<;>simp[IX,IY,IZ,i]
   |true=>
    simp only[S9,S7]
    by_cases hG:tag=lm
    ·have e1:decide (tag=[71,72,68])=true:=UU hG
     rw[U4 hG];simp only[e1,S4]
     match ts with
     |[]=>rfl
     |[b]=>
      have g1:b4 [a,b] 1=some b:=rfl
      have d2:decide ((([a,b]:List (List UInt8)).length:Int)=2)=true:=rfl
      simp only[d2,KC,g1,SQ,pB b (hl b oS),IX,i,T1]
     |b::c::ts=>
      have d2:decide (((a::b::c::ts).length:Int)=2)=false:=by simp only[ST,Tk];omega
      simp only[d2,KD,SQ,IX]
    ·have e1:decide (tag=[71,72,68])=false:=TZ hG
     simp only[e1,S7,hG,Tq]
     by_cases hM:tag=kl
     ·have e2:decide (tag=[77,72,68])=true:=UU hM
      rw[U4 hM];simp only[e2,S4]
      match ts with
      |[]=>rfl
      |[b]=>rfl
      |[b,c]=>
       have g1:b4 [a,b,c] 1=some b:=rfl
       have g2:b4 [a,b,c] 2=some c:=rfl
       have d2:decide ((([a,b,c]:List (List UInt8)).length:Int)=3)=true:=rfl
       simp only[d2,KC,g1,g2,SQ,pB b (hl b oS),pB c (hl c oS),cx,IY,i,T1]
      |b::c::d::ts=>
       have d2:decide (((a::b::c::d::ts).length:Int)=3)=false:=by simp only[ST,Tk];omega
       simp only[d2,KD,SQ,IY]
     ·have e2:decide (tag=[77,72,68])=false:=TZ hM
      simp only[e2,S7,hM,Tq]
      match ts with
      |[]=>rfl
      |[b]=>rfl
      |[b,c]=>rfl
      |[b,c,d]=>rfl
      |[b,c,d,e]=>rfl
      |[b,c,d,e,f]=>
       have g1:b4 [a,b,c,d,e,f] 1=some b:=rfl
       have g2:b4 [a,b,c,d,e,f] 2=some c:=rfl
       have g3:b4 [a,b,c,d,e,f] 3=some d:=rfl
       have g4:b4 [a,b,c,d,e,f] 4=some e:=rfl
       have g5:b4 [a,b,c,d,e,f] 5=some f:=rfl
       have d2:decide ((([a,b,c,d,e,f]:List (List UInt8)).length:Int)=6)=true:=rfl
       obtain⟨S,k1,k2⟩:=KF (hl d oS)
       obtain⟨V,k3,k4⟩:=KF (hl e oS)
       simp only[d2,S9,E0,g1,g2,g3,g4,g5,SQ,pB b (hl b oS),pB c (hl c oS),bT,cx,k1,k3,Px,KE,IZ,i,T1]
       unfold CA CB
       cases cH b<;>cases cH c<;>cases h1:decide (f=[])<;>cases h2:decide (f=[49])<;>simp
       all_goals
        cases E:fB d<;>cases h4:fB e<;>simp
        have:=ye h4
        rw[k2 E,k4 h4]
        rw[TV];simp;omega
      |b::c::d::e::f::g::ts=>
       have d2:decide (((a::b::c::d::e::f::g::ts).length:Int)=6)=false:=by simp only[ST,Tk];omega
       simp only[d2,Tm,HQ,SQ,S4,IZ]
end
abbrev RA:=pw
abbrev RO:=mn
abbrev Nt:=ah
def cK (tag:List UInt8):Nat:=if tag=fy\/tag=uh then 1 else if tag=lm\/tag=yQ then 2 else if tag=kl\/tag=xg then 3 else 0
def fN (tag:List UInt8):Bool:=decide (tag=fy)||decide (tag=lm)||decide (tag=kl)
def nu (a:RA) (k i:Int):RA:=⟨a.flevels,a.fnotes++[⟨k,i⟩]⟩
def bk (c:Nat) (i:Int) (a:RA):RA:=⟨a.flevels.take c,a.fnotes++List.replicate (a.flevels.length - c) ⟨2,i⟩⟩
theorem E1 {α:Type} (n:Nat) (x:α):List.replicate n x++[x]=List.replicate (n+1) x:=by
 rw[List.replicate_succ']
def km (ref:List UInt8) (x:RO):RO:=⟨x.fheaded,x.fref,x.fmany+1,if dU ref=true then x.frefs++[ref] else x.frefs⟩
def DB (ref:List UInt8) (x:RO) (i:Int):List Nt:=if dU ref=true/\ref∈x.frefs then[⟨5,i⟩] else[]
structure yR (n:Nat) (a:RA):Prop where
 lv:a.flevels.length<=3
 nt:a.fnotes.length<=10 * n
 ma:∀ x∈a.flevels,0<=x.fmany/\x.fmany<=(n:Int)+1/\x.frefs.length<=n
noncomputable def KG (ts:List (List UInt8)) (lv:Nat) (i:Int) (x:RO):List Nt:=
 match ts with
 |[p,q]=>if fB p=true/\dU q=true then(if x.fheaded=true then(if kj p=x.fmany+(if lv=2 then 1 else 0) then[] else[⟨3,i⟩])++(if q=x.fref then[] else[⟨4,i⟩]) else[]) else[⟨6,i⟩]
 |_=>[⟨6,i⟩]
noncomputable def lp (s:aa) (lv:Nat) (i:Int) (a:RA):RA:=
 if a.flevels.length<=lv then nu a 1 i else
  match a.flevels[lv]? with
  |none=>a
  |some x=>⟨a.flevels.take lv,(bk (lv+1) i a).fnotes++(if s.fElements.all fh=true then KG (s.fElements.map firstT) lv i x else[⟨6,i⟩])⟩
def qX (lv:Nat):List UInt8:=if lv=0 then uh else if lv=1 then yQ else xg
def B5:RO:=⟨false,[],0,[]⟩
def nv (es:List aj):List UInt8:=match es with|[]=>[]|e::_=>if fh e=true then firstT e else[]
def qY (ref:List UInt8) (i:Int) (a:RA):RA:=match a.flevels.getLast? with|none=>a|some x=>⟨a.flevels.dropLast++[km ref x],a.fnotes++DB ref x i⟩
theorem se (ref:List UInt8) (i:Int) (N:List Nt):qY ref i ⟨[],N⟩=⟨[],N⟩:=rfl
theorem mw (ref:List UInt8) (i:Int) (L:List RO) (x:RO) (N:List Nt):qY ref i ⟨L++[x],N⟩=⟨L++[km ref x],N++DB ref x i⟩:=by
 unfold qY
 simp
theorem E2 (ref:List UInt8) (i:Int) (a:RA):(qY ref i a).flevels.length=a.flevels.length:=by
 obtain⟨L,N⟩:=a
 rcases Uy L with rfl|⟨P,x,rfl⟩
 ·rfl
 ·rw[Uz,mw];simp
def gb (lv:Nat) (i:Int) (a:RA):RA:=if a.flevels.length<lv then⟨a.flevels++List.replicate (lv - a.flevels.length) B5,a.fnotes++[⟨1,i⟩]⟩ else a
noncomputable def iV (s:aa) (i:Int) (a:RA):RA:=if EP s=true then a else nu a 6 i
noncomputable def kM (s:aa) (lv:Nat) (i:Int) (a:RA):RA:=
 let b:=qY (nv s.fElements) i (iV s i (gb lv i (bk lv i a)))
 ⟨b.flevels++[⟨true,n3 s.fElements,if lv=2 then 1 else 0,[]⟩],b.fnotes⟩
def DC (lv:Nat):List UInt8:=if lv=0 then fy else if lv=1 then lm else kl
noncomputable section
variable {A S:Type} {k:Nat} {f:S->Option (S⊕A)} {s:S}
section
variable {α R:Type}
theorem iI {s':S} (h:f s=some (.inl s')):bc f s=bc f s':=by rw[b3,h]
theorem fd {a:A} (h:f s=some (.inr a)):bc f s=some a:=by rw[b3,h]
def Gs (L:List α) (i j:Int) (k:List α->Option R):Option R:=
 (b4 L j).bind fun _=>L[j.toNat]?.bind fun e=>(b4 L i).bind fun _=>L[i.toNat]?.bind fun e2=>(b4 L i).bind fun _=>L[i.toNat]?.bind fun _=>
  (b4 (L.set i.toNat e) j).bind fun _=>(L.set i.toNat e)[j.toNat]?.bind fun _=>k ((L.set i.toNat e).set j.toNat e2)
theorem MJ {L:List α} {i j:Nat} {u v w:α} {k:List α->Option R} (hi:L[i]?=some u) (hj:L[j]?=some v) (G:(L.set i v)[j]?=some w):Gs L (i:Int) (j:Int) k=k ((L.set i v).set j u):=by
 unfold Gs
 simp only[aw,Ue,hi,hj,G,SQ]
theorem rE (X Y:List α) (u:α):(X++u::Y)[X.length]?=some u:=by simp
theorem xa (X Y:List α) (u v:α):(X++u::Y).set X.length v=X++v::Y:=by simp
theorem MK (X Y Z:List α) (u v:α) (k:List α->Option R):Gs (X++u::(Y++v::Z)) (X.length:Int) ((X.length+1+Y.length:Nat):Int) k=k (X++v::(Y++u::Z)):=by
 have e1:∀ w z:α,X++w::(Y++z::Z)=(X++w::Y)++z::Z:=fun w z=>by simp
 have e2:∀ w:α,X.length+1+Y.length=(X++w::Y).length:=fun w=>by simp;omega
 have hj:∀ w z:α,(X++w::(Y++z::Z))[X.length+1+Y.length]?=some z:=fun w z=>by rw[e1,e2 w];exact rE _ _ _
 rw[MJ (rE X _ u) (hj u v) (by rw[xa];exact hj v v),xa,e1 v v,e2 v,xa,<-e1]
theorem ML (X Y Z:List α) (u v:α) (k:List α->Option R):Gs (X++u::(Y++v::Z)) ((X.length+1+Y.length:Nat):Int) (X.length:Int) k=k (X++v::(Y++u::Z)):=by
 have e1:∀ w z:α,X++w::(Y++z::Z)=(X++w::Y)++z::Z:=fun w z=>by simp
 have e2:∀ w:α,X.length+1+Y.length=(X++w::Y).length:=fun w=>by simp;omega
 have hj:∀ w z:α,(X++w::(Y++z::Z))[X.length+1+Y.length]?=some z:=fun w z=>by rw[e1,e2 w];exact rE _ _ _
 have hs:∀ w z y:α,(X++w::(Y++z::Z)).set (X.length+1+Y.length) y=X++w::(Y++y::Z):=fun w z y=>by rw[e1,e2 w,xa,<-e1]
 rw[MJ (hj u v) (rE X _ u) (by rw[hs];exact rE X _ u),hs,xa]
structure oP (lt:α->α->Bool):Prop where
 asym:∀ a b,lt a b=true->lt b a=false
 tr:∀ a b c,lt b a=false->lt c b=false->lt c a=false
def mT (lt:α->α->Bool) (L:List α):Prop:=L.Pairwise (fun a b=>lt b a=false)
def Cs (lt:α->α->Bool) (x y:α):Bool:= !lt x y&& !lt y x
def SP (lt:α->α->Bool) (X Y:List α):Prop:=X.Perm Y/\∀ x,X.filter (Cs lt x)=Y.filter (Cs lt x)
theorem SP.refl (lt:α->α->Bool) (X:List α):SP lt X X:=⟨.refl _,fun _=>rfl⟩
theorem SP.symm {lt:α->α->Bool} {X Y:List α} (h:SP lt X Y):SP lt Y X:=⟨h.1.symm,fun x=>(h.2 x).symm⟩
theorem SP.trans {lt:α->α->Bool} {X Y Z:List α} (h:SP lt X Y) (g:SP lt Y Z):SP lt X Z:=⟨h.1.trans g.1,fun x=>(h.2 x).trans (g.2 x)⟩
theorem SP.app {lt:α->α->Bool} {X Y a b:List α} (h:SP lt X a) (g:SP lt Y b):SP lt (X++Y) (a++b):=⟨h.1.append g.1,fun x=>by rw[List.filter_append,List.filter_append,h.2,g.2]⟩
theorem oP.lt_left {lt:α->α->Bool} (O:oP lt) {v v' x:α} (h:lt v v'=false) (g:lt v x=true):lt v' x=true:=by
 cases e:lt v' x with
 |true=>rfl
 |false=>rw[O.tr x v' v e h] at g;cases g
theorem oP.lt_right {lt:α->α->Bool} (O:oP lt) {v v' x:α} (h:lt v' v=false) (g:lt x v=true):lt x v'=true:=by
 cases e:lt x v' with
 |true=>rfl
 |false=>rw[O.tr v v' x h e] at g;cases g
theorem oP.irr {lt:α->α->Bool} (O:oP lt) (v:α):lt v v=false:=by
 cases e:lt v v with
 |false=>rfl
 |true=>rw[<-e];exact O.asym v v e
theorem SP.swap {lt:α->α->Bool} (O:oP lt) {U V:List α} (h:∀ u∈U,∀ v∈V,lt v u=true):SP lt (U++V) (V++U):=by
 refine⟨List.perm_append_comm,fun x=> ?_⟩
 rw[List.filter_append,List.filter_append]
 cases hu:U.filter (Cs lt x) with
 |nil=>simp
 |cons u b=>
  have hV:V.filter (Cs lt x)=[]:=by
   rw[List.filter_eq_nil_iff]
   intro v hv hx
   have i:=U3.1 (hu▸List.mem_cons_self:u∈U.filter (Cs lt x))
   have:=h u i.1 v hv
   have a:=i.2
   simp only[Cs,SR,TI] at a hx
   rw[O.tr u x v a.1 hx.2] at this
   cases this
  rw[hV];simp
theorem jz {lt:α->α->Bool} {X Y:List α}:mT lt (X++Y)↔mT lt X/\mT lt Y/\∀ a∈X,∀ b∈Y,lt b a=false:=List.pairwise_append
theorem ON (lt:α->α->Bool) (x:α):mT lt [x]:=List.pairwise_singleton _ _
theorem tP {lt:α->α->Bool} {V:List α} (h:mT lt V) {P:α->Prop} (O:oP lt) (hP:∀ v v',lt v v'=false->P v->P v') (hk:k=0\/∃ v,V[k - 1]?=some v/\P v):∀ w∈V.take k,P w:=by
 rcases hk with rfl|⟨v,hv,Y⟩
 ·simp
 ·intro w G
  obtain⟨i,hi,rfl⟩:=TM.1 G
  rw[List.getElem_take]
  obtain⟨s6,s7⟩:=SY.1 hv
  have h5:i<k:=by have:=List.length_take_le k V;rw[Th] at hi;omega
  rcases Uu (show i<=k - 1 by omega) with X|B
  ·exact hP v _ (by rw[<-s7];exact List.pairwise_iff_getElem.1 h i (k - 1) oM s6 X) Y
  ·subst B;rw[s7];exact Y
theorem xb {lt:α->α->Bool} {V:List α} (h:mT lt V) {P:α->Prop} (hP:∀ v v',lt v' v=false->P v->P v') (hk:V.length<=k\/∃ v,V[k]?=some v/\P v):∀ w∈V.drop k,P w:=by
 rcases hk with hk|⟨v,hv,Y⟩
 ·rw[Uo hk];simp
 ·intro w G
  obtain⟨i,hi,rfl⟩:=TM.1 G
  rw[List.getElem_drop]
  obtain⟨s6,s7⟩:=SY.1 hv
  rw[TQ] at hi
  rcases U0 i with rfl|h5
  ·simp only[Ul];rw[s7];exact Y
  ·exact hP v _ (by rw[<-s7];exact List.pairwise_iff_getElem.1 h k (k+i) s6 oM oM) Y
theorem HF {lt:α->α->Bool} (O:oP lt):∀ {X Y:List α},mT lt X->mT lt Y->SP lt X Y->X=Y:=by
 intro X
 induction X with
 |nil=>intro Y _ _ h;exact(h.1.nil_eq)
 |cons x X ih=>
  intro Y hX c h
  cases Y with
  |nil=>exact absurd h.1.symm.nil_eq oS
  |cons y Y=>
   have d:lt y x=false:=by
    have:=h.1.symm.subset (List.mem_cons_self:y∈y::Y)
    rcases Tf.1 this with rfl|Z
    ·exact O.irr _
    ·exact(UA.1 hX).1 y Z
   have a:lt x y=false:=by
    have:=h.1.subset (List.mem_cons_self:x∈x::X)
    rcases Tf.1 this with rfl|Z
    ·exact O.irr _
    ·exact(UA.1 c).1 x Z
   have C:=h.2 x
   have e1:Cs lt x x=true:=by simp[Cs,O.irr]
   have e2:Cs lt x y=true:=by simp[Cs,d,a]
   rw[List.filter_cons_of_pos e1,List.filter_cons_of_pos e2] at C
   injection C with j b
   subst j
   rw[ih (UA.1 hX).2 (UA.1 c).2 ⟨(List.perm_cons _).1 h.1,fun z=> ?_⟩]
   have:=h.2 z
   rw[List.filter_cons,List.filter_cons] at this
   split at this
   ·injection this
   ·exact this
def II (a b n:Int):List α×Int->Option ((List α×Int)⊕((List α×Int)⊕(Unit×List α))):=fun s=>
 bif decide (s.2<n) then Gs s.1 (IntKind.i64.wrap (a+s.2)) (IntKind.i64.wrap (b+s.2)) (fun d=>some (.inl (d,IntKind.i64.wrap (s.2+1)))) else h_ (some (.inl (s.1,s.2)))
def BT (L:List α) (a b n:Int):Option (Unit×List α):=(bc (II a b n) (L,0)).bind (c3 fun s=>some ((),s.1))
theorem HG:∀ (U V A M B:List α) (a b n i:Nat),U.length=V.length->A.length+U.length+M.length+V.length<=1152921504606846976->a+i=A.length->b+i=A.length+U.length+M.length->n=i+U.length->
  bc (II (a:Int) (b:Int) (n:Int)) (A++U++M++V++B,(i:Int))=some (.inl (A++V++M++U++B,(n:Int))):=by
 intro U
 induction U with
 |nil=>
  intro V A M B a b n i hl hb h1 h2 E
  have hV:V=[]:=by cases V with
   |nil=>rfl
   |cons _ _=>simp at hl
  subst hV
  have:n=i:=by simpa using E
  subst this
  refine fd ?_
  unfold II
  simp[h_]
 |cons u U ih=>
  intro V A M B a b n i hl hb h1 h2 E
  cases V with
  |nil=>simp at hl
  |cons v V=>
   simp only[ST] at hl hb h2 E
   have e:A++u::U++M++v::V++B=A++u::((U++M)++v::(V++B)):=by simp
   have f:IntKind.i64.wrap ((a:Int)+(i:Int))=(A.length:Int):=by rw[bh _ oM oM];omega
   have I:IntKind.i64.wrap ((b:Int)+(i:Int))=((A.length+1+(U++M).length:Nat):Int):=by rw[bh _ oM oM,SS];omega
   have G:IntKind.i64.wrap ((i:Int)+1)=((i+1:Nat):Int):=bB i oM
   have hd:decide (((i:Nat):Int)<(n:Int))=true:=by simp;omega
   rw[e]
   refine(iI (s':=((A++[v])++U++(M++[u])++V++B,((i+1:Nat):Int))) ?_).trans ?_
   ·unfold II
    dsimp only
    rw[hd,f,I,G]
    dsimp only[cond_true]
    rw[MK]
    simp
   ·rw[ih V (A++[v]) (M++[u]) B a b n (i+1) oM oT oT oT oM]
    simp
theorem BU (U V A M B:List α) (a b n:Int) (hl:U.length=V.length) (hb:A.length+U.length+M.length+V.length<=1152921504606846976) (ha:a=(A.length:Nat)) (q:b=((A.length+U.length+M.length:Nat):Int)) (hn:n=(U.length:Nat)):
  BT (A++U++M++V++B) a b n=some ((),A++V++M++U++B):=by
 subst ha q hn
 unfold BT
 rw[show(0:Int)=((0:Nat):Int) from rfl,HG U V A M B _ _ _ 0 hl hb oM oM oM]
 rfl
def MM (m:Int):List α×Int×Int->Option ((List α×Int×Int)⊕((List α×Int×Int)⊕(Unit×List α))):=fun s=>
 bif !decide (s.2.1=s.2.2) then
  bif decide (s.2.2<s.2.1) then(BT s.1 (IntKind.i64.wrap (m - s.2.1)) m s.2.2).bind fun y=>some (.inl (y.2,IntKind.i64.wrap (s.2.1 - s.2.2),s.2.2))
  else(BT s.1 (IntKind.i64.wrap (m - s.2.1)) (IntKind.i64.wrap (IntKind.i64.wrap (m+s.2.2) - s.2.1)) s.2.1).bind fun y=>some (.inl (y.2,s.2.1,IntKind.i64.wrap (s.2.2 - s.2.1)))
 else h_ (some (.inl (s.1,s.2.1,s.2.2)))
def OO (L:List α) (a m b:Int):Option (Unit×List α):=
 (bc (MM m) (L,IntKind.i64.wrap (m - a),IntKind.i64.wrap (b - m))).bind (c3 fun s=>(BT s.1 (IntKind.i64.wrap (m - s.2.1)) m s.2.1).bind fun y=>some ((),y.2))
theorem J_:∀ (n:Nat) (P U V S:List α) (m:Nat),U.length+V.length<=n->U≠[]->V≠[]->(P++U++V++S).length<=1152921504606846976->m=P.length+U.length->
  (bc (MM (m:Int)) (P++U++V++S,(U.length:Int),(V.length:Int))).bind (c3 fun s=>(BT s.1 (IntKind.i64.wrap ((m:Int) - s.2.1)) (m:Int) s.2.1).bind fun y=>some ((),y.2))=some ((),P++V++U++S):=by
 intro n
 induction n with
 |zero=>intro P U V S m h hU;cases U with
  |nil=>exact absurd rfl hU
  |cons _ _=>simp at h
 |succ n ih=>
  intro P U V S m h hU hV hb Z
  have r:0<U.length:=Ux.2 hU
  have t:0<V.length:=Ux.2 hV
  have h6:P.length+U.length+V.length+S.length<=1152921504606846976:=by simpa[U7] using hb
  have f:IntKind.i64.wrap ((m:Int) - (U.length:Int))=((P.length:Nat):Int):=by rw[bh _ oM oM];omega
  rcases Nat.lt_trichotomy U.length V.length with X|B|c
  ·
   have hd:(!decide ((U.length:Int)=(V.length:Int)))=true:=by simp;omega
   have q:decide ((V.length:Int)<(U.length:Int))=false:=by simp;omega
   have I:IntKind.i64.wrap (IntKind.i64.wrap ((m:Int)+(V.length:Int)) - (U.length:Int))=((P.length+V.length:Nat):Int):=by
    rw[bh ((m:Int)+(V.length:Int)) oM oM,bh _ oM oM];omega
   have G:IntKind.i64.wrap ((V.length:Int) - (U.length:Int))=((V.length - U.length:Nat):Int):=by rw[bh _ oM oM];omega
   have e:V=V.take (V.length - U.length)++V.drop (V.length - U.length):=(Tl _ _).symm
   generalize b:V.take (V.length - U.length)=l at e
   generalize d:V.drop (V.length - U.length)=o at e
   have M:l.length=V.length - U.length:=by rw[<-b,Th];omega
   have l2:o.length=U.length:=by rw[<-d,TQ];omega
   have hs:=BU U o P l S (P.length:Int) ((P.length+V.length:Nat):Int) (U.length:Int) l2.symm oM rfl oM rfl
   rw[iI (s':=(P++o++l++(U++S),(o.length:Int),(l.length:Int)))]
   ·rw[ih P o l (U++S) m oM (by intro h0;rw[h0] at l2;simp at l2;omega) (by intro h0;rw[h0] at M;simp at M;omega) oT oM]
    rw[e];simp
   ·unfold MM
    dsimp only
    rw[hd,q,f,I,G]
    dsimp only[cond_true,cond_false]
    rw[show P++U++V++S=P++U++l++o++S by rw[e];simp,hs,l2,M]
    simp
  ·have hd:(!decide ((U.length:Int)=(V.length:Int)))=false:=by simp;omega
   rw[fd (a:= .inl (P++U++V++S,(U.length:Int),(V.length:Int)))]
   ·simp only[SQ,c3]
    rw[f,show P++U++V++S=P++U++[]++V++S by simp,BU U V P [] S _ _ _ B oT rfl oT rfl]
    simp
   ·unfold MM
    dsimp only
    rw[hd]
    simp[h_]
  ·have hd:(!decide ((U.length:Int)=(V.length:Int)))=true:=by simp;omega
   have q:decide ((V.length:Int)<(U.length:Int))=true:=by simp;omega
   have G:IntKind.i64.wrap ((U.length:Int) - (V.length:Int))=((U.length - V.length:Nat):Int):=by rw[bh _ oM oM];omega
   have e:U=U.take V.length++U.drop V.length:=(Tl _ _).symm
   generalize g:U.take V.length=i at e
   generalize k:U.drop V.length=j at e
   have M:i.length=V.length:=by rw[<-g,Th];omega
   have l2:j.length=U.length - V.length:=by rw[<-k,TQ]
   have hs:=BU i V P j S (P.length:Int) (m:Int) (V.length:Int) M oM rfl oM oM
   rw[iI (s':=(P++V++j++i++S,(j.length:Int),(i.length:Int)))]
   ·rw[ih (P++V) j i S m oM (by intro h0;rw[h0] at l2;simp at l2;omega) (by intro h0;rw[h0] at M;simp at M;omega) oT oT]
    rw[e];simp
   ·unfold MM
    dsimp only
    rw[hd,q,f,G]
    dsimp only[cond_true,cond_false]
    rw[show P++U++V++S=P++i++j++V++S by rw[e];simp,hs,l2,M]
    simp
theorem OP (P U V S:List α) (a m b:Int) (hU:U≠[]) (hV:V≠[]) (hb:(P++U++V++S).length<=1152921504606846976) (ha:a=(P.length:Nat)) (Z:m=((P.length+U.length:Nat):Int)) (q:b=((P.length+U.length+V.length:Nat):Int)):
  OO (P++U++V++S) a m b=some ((),P++V++U++S):=by
 have h6:P.length+U.length+V.length+S.length<=1152921504606846976:=by simpa[U7] using hb
 unfold OO
 rw[show IntKind.i64.wrap (m - a)=(U.length:Int) by rw[bh _ oM oM];omega,show IntKind.i64.wrap (b - m)=(V.length:Int) by rw[bh _ oM oM];omega,Z]
 exact J_ _ P U V S _ (SZ _) hU hV hb rfl
end
end
noncomputable section
section
variable {α R:Type}
def Ka (c:α->α->Option Int) (a:Int):List α×Int->Option ((List α×Int)⊕((List α×Int)⊕((List α×Int)⊕((List α×Int)⊕(Unit×List α))))):=fun t=>
 (m8 (decide (a<t.2)) ((b4 t.1 t.2).bind fun _=>t.1[t.2.toNat]?.bind fun e=>(b4 t.1 (IntKind.i64.wrap (t.2 - 1))).bind fun _=>t.1[(IntKind.i64.wrap (t.2 - 1)).toNat]?.bind fun e2=>(c e e2).bind fun x=>some (decide (x<0)))).bind fun v=>
  bif v then Gs t.1 t.2 (IntKind.i64.wrap (t.2 - 1)) (fun d=>some (.inl (d,IntKind.i64.wrap (t.2 - 1)))) else h_ (some (.inl (t.1,t.2)))
def MN (c:α->α->Option Int) (a b:Int):List α×Int->Option ((List α×Int)⊕((List α×Int)⊕(Unit×List α))):=fun s=>
 bif decide (s.2<b) then(bc (Ka c a) (s.1,s.2)).bind (c3 fun t=>some (.inl (t.1,IntKind.i64.wrap (s.2+1)))) else h_ (some (.inl (s.1,s.2)))
def Kb (c:α->α->Option Int) (L:List α) (a b:Int):Option (Unit×List α):=(bc (MN c a b) (L,IntKind.i64.wrap (a+1))).bind (c3 fun s=>some ((),s.1))
def IJ (Q:α->Prop) (c:α->α->Option Int) (lt:α->α->Bool):Prop:=∀ a b,Q a->Q b->∃ x,c a b=some x/\decide (x<0)=lt a b
theorem Kc {Q:α->Prop} {c:α->α->Option Int} {lt:α->α->Bool} (hc:IJ Q c lt) (A:List α) (x:α) (hx:Q x):∀ (n:Nat) (P T:List α),(∀ y∈P,Q y)->P.length<=n->A.length+P.length<=1152921504606846976->
  ∃ i j,P=i++j/\bc (Ka c (A.length:Int)) (A++P++x::T,((A.length+P.length:Nat):Int))=some (.inl (A++i++x::(j++T),((A.length+i.length:Nat):Int)))/\(∀ y∈j,lt x y=true)/\(i=[]\/∃ y,i[i.length - 1]?=some y/\lt x y=false):=by
 intro n
 induction n with
 |zero=>
  intro P T _ hn hb
  have:P=[]:=Ta.1 oM
  subst this
  refine⟨[],[],rfl,fd ?_,by simp,.inl rfl⟩
  unfold Ka
  simp[m8,h_]
 |succ n ih=>
  intro P T hP hn hb
  rcases Uy P with rfl|⟨K,y,rfl⟩
  ·refine⟨[],[],rfl,fd ?_,by simp,.inl rfl⟩
   unfold Ka
   simp[m8,h_]
  ·rw[Uz] at hP hn hb⊢
   simp only[SS,ST,S3] at hn hb
   obtain⟨z,hz,d⟩:=hc x y hx (hP y oS)
   have f:IntKind.i64.wrap (((A.length+(K++[y]).length:Nat):Int) - 1)=(((A++K).length:Nat):Int):=by rw[bh _ oT oT];simp;omega
   have hd:decide ((A.length:Int)<((A.length+(K++[y]).length:Nat):Int))=true:=by simp;omega
   have e:A++(K++[y])++x::T=(A++K)++y::([]++x::T):=by simp
   have e2:A.length+(K++[y]).length=(A++K).length+1+([]:List α).length:=by simp;omega
   have g1:((A++K)++y::([]++x::T))[(A++K).length+1+([]:List α).length]?=some x:=by
    rw[show(A++K)++y::([]++x::T)=(A++K++[y])++x::T by simp,show(A++K).length+1+([]:List α).length=(A++K++[y]).length by simp;omega];exact rE _ _ _
   have g2:=rE (A++K) ([]++x::T) y
   have C:Ka c (A.length:Int) (A++(K++[y])++x::T,((A.length+(K++[y]).length:Nat):Int))=bif lt x y then some (.inl (A++K++x::(y::T),(((A++K).length:Nat):Int))) else some (.inr (.inl (A++(K++[y])++x::T,((A.length+(K++[y]).length:Nat):Int)))):=by
    unfold Ka
    dsimp only
    rw[hd,f,e,e2]
    simp only[aw,Ue,g1,g2,SQ,hz,d,m8,S4,ML]
    cases lt x y<;>simp[h_]
   cases hl:lt x y with
   |true=>
    rw[hl] at C
    obtain⟨i,j,h1,h2,E,h4⟩:=ih K (y::T) (fun z hz=>hP z (TT _ hz)) oM oM
    refine⟨i,j++[y],by rw[h1];simp, ?_, ?_,h4⟩
    ·rw[iI C,SS,h2];simp
    ·intro w G
     rcases Te.1 G with h|h
     ·exact E w h
     ·rw[Tj.1 h];exact hl
   |false=>
    rw[hl] at C
    refine⟨K++[y],[],by simp,by rw[fd C];simp,by simp,.inr ⟨y, ?_,hl⟩⟩
    simp
theorem Kd {Q:α->Prop} {c:α->α->Option Int} {lt:α->α->Bool} (O:oP lt) (hc:IJ Q c lt) (A B:List α):∀ (T P:List α),(∀ y∈P++T,Q y)->mT lt P->A.length+P.length+T.length<=1152921504606846976->
  ∃ W,bc (MN c (A.length:Int) ((A.length+P.length+T.length:Nat):Int)) (A++P++T++B,((A.length+P.length:Nat):Int))=some (.inl (A++W++B,((A.length+P.length+T.length:Nat):Int)))/\mT lt W/\SP lt (P++T) W:=by
 intro T
 induction T with
 |nil=>
  intro P _ hP hb
  refine⟨P,fd ?_,hP,by simpa using SP.refl lt P⟩
  unfold MN
  simp[h_]
 |cons x T ih=>
  intro P hQ hP hb
  simp only[ST] at hb
  obtain⟨i,j,h1,h2,E,h4⟩:=Kc hc A x (hQ x oS) P.length P (T++B) (fun y hy=>hQ y (TT _ hy)) (SZ _) oM
  have d:mT lt i/\mT lt j/\∀ a∈i,∀ b∈j,lt b a=false:=jz.1 (h1▸hP)
  have h5:∀ y∈i,lt x y=false:=by
   have:=tP (k:=i.length) d.1 (P:=fun y=>lt x y=false) O (fun v v' h g=>O.tr v' v x h g) (by
    rcases h4 with h|h
    ·exact .inl (by rw[h];rfl)
    ·exact .inr h)
   rwa[UJ] at this
  have hs:mT lt (i++x::j):=by
   refine jz.2 ⟨d.1,UA.2 ⟨fun y hy=>O.asym _ _ (E y hy),d.2.1⟩,fun a ha b hb=> ?_⟩
   rcases Tf.1 hb with rfl|hb
   ·exact h5 a ha
   ·exact d.2.2 a ha b hb
  have u9:SP lt (P++[x]) (i++x::j):=by
   rw[h1,S6]
   exact(SP.refl lt i).app (SP.swap O (fun u hu v hv=>by rw[Tj.1 hv];exact E u hu))
  have e:∀ y∈(i++x::j)++T,Q y:=by
   intro y hy
   rcases Te.1 hy with h|h
   ·rcases Te.1 (u9.1.mem_iff.2 h) with h|h
    ·exact hQ y (TT _ h)
    ·exact hQ y (by rw[Tj.1 h];simp)
   ·exact hQ y (by simp[h])
  obtain⟨W,g1,g2,g3⟩:=ih (i++x::j) e hs (by rw[show(i++x::j).length=P.length+1 by rw[h1];simp;omega];omega)
  have M:(i++x::j).length=P.length+1:=by rw[h1];simp;omega
  refine⟨W, ?_,g2, ?_⟩
  ·rw[M] at g1
   rw[iI (s':=(A++(i++x::j)++T++B,((A.length+(P.length+1):Nat):Int)))]
   ·rw[show A.length+P.length+(x::T).length=A.length+(P.length+1)+T.length by simp;omega]
    exact g1
   ·have f:IntKind.i64.wrap (((A.length+P.length:Nat):Int)+1)=((A.length+(P.length+1):Nat):Int):=by rw[bh _ oM oM];omega
    have hd:decide (((A.length+P.length:Nat):Int)<((A.length+P.length+(x::T).length:Nat):Int))=true:=by simp;omega
    unfold MN
    dsimp only
    rw[hd,f,show A++P++x::T++B=A++P++x::(T++B) by simp,h2]
    simp[c3]
  ·refine SP.trans ?_ g3
   rw[show P++x::T=(P++[x])++T by simp]
   exact u9.app (SP.refl lt T)
theorem IK {Q:α->Prop} {c:α->α->Option Int} {lt:α->α->Bool} (O:oP lt) (hc:IJ Q c lt) (A U B:List α) (hQ:∀ u∈U,Q u) (a b:Int) (ha:a=(A.length:Nat)) (hb:b=((A.length+U.length:Nat):Int)) (hl:A.length+U.length<=1152921504606846976):
  ∃ W,Kb c (A++U++B) a b=some ((),A++W++B)/\mT lt W/\SP lt U W:=by
 subst ha hb
 unfold Kb
 have f:IntKind.i64.wrap ((A.length:Int)+1)=((A.length+1:Nat):Int):=by rw[bh _ oM oM];omega
 cases U with
 |nil=>
  refine⟨[], ?_,List.Pairwise.nil,SP.refl _ _⟩
  rw[f,fd (a:= .inl (A++[]++B,((A.length+1:Nat):Int)))]
  ·rfl
  ·unfold MN
   have hd:decide (((A.length+1:Nat):Int)<((A.length+([]:List α).length:Nat):Int))=false:=by simp;omega
   dsimp only
   rw[hd]
   rfl
 |cons u T=>
  obtain⟨W,g1,g2,g3⟩:=Kd O hc A B T [u] hQ (ON lt u) (by simp at hl⊢;omega)
  refine⟨W, ?_,g2,g3⟩
  rw[f,show A++u::T++B=A++[u]++T++B by simp,show A.length+1=A.length+[u].length from rfl,show A.length+(u::T).length=A.length+[u].length+T.length by simp;omega,g1]
  rfl
def IL (c:α->α->Option Int) (L:List α) (i j:Int) (k:Int->Option R):Option R:=
 (b4 L i).bind fun _=>L[i.toNat]?.bind fun e=>(b4 L j).bind fun _=>L[j.toNat]?.bind fun e2=>(c e e2).bind k
theorem BV {Q:α->Prop} {c:α->α->Option Int} {lt:α->α->Bool} (hc:IJ Q c lt) {L:List α} {i j:Nat} {x y:α} (hx:Q x) (hy:Q y) (hi:L[i]?=some x) (hj:L[j]?=some y):∃ z,(∀ {R:Type} (k:Int->Option R),IL c L (i:Int) (j:Int) k=k z)/\decide (z<0)=lt x y:=by
 obtain⟨z,hz,d⟩:=hc x y hx hy
 refine⟨z,fun k=> ?_,d⟩
 unfold IL
 simp only[aw,Ue,hi,hj,hz,SQ]
def ns (i j:Int):Int:=IntKind.i64.wrap (IntKind.u64.wrap (IntKind.i64.wrap (i+j))/2)
theorem zG (i j:Nat) (h:i+j<=4611686018427387904):ns (i:Int) (j:Int)=(((i+j)/2:Nat):Int):=by
 unfold ns
 rw[bh ((i:Int)+(j:Int)) oM oM,show((i:Int)+(j:Int))=((i+j:Nat):Int) by omega,IntKind.wrap_u64]
 rw[bh _ oM oM]
 omega
def Kp (c:α->α->Option Int) (L:List α) (I J:Int->Int) (T:Int->Bool):Int×Int->Option ((Int×Int)⊕((Int×Int)⊕R)):=fun s=>
 bif decide (s.1<s.2) then mh (QQ .u64 1) (IL c L (I (ns s.1 s.2)) (J (ns s.1 s.2)) fun x=>bif T x then some (.inl (IntKind.i64.wrap (ns s.1 s.2+1),s.2)) else some (.inl (s.1,ns s.1 s.2))) else h_ (some (.inl (s.1,s.2)))
theorem HH {c:α->α->Option Int} {L:List α} {I J:Int->Int} {T:Int->Bool} (q:Nat->Bool) (lo hi:Nat) (hh:hi<=1152921504606846976) (hq:∀ h,lo<=h->h<hi->∃ z,(∀ {R:Type} (k:Int->Option R),IL c L (I (h:Int)) (J (h:Int)) k=k z)/\T z=q h):∀ (n i j:Nat),j - i<=n->lo<=i->i<=j->j<=hi->(i=lo\/q (i - 1)=true)->(j=hi\/q j=false)->
  ∃ r,lo<=r/\r<=hi/\bc (Kp (R:=R) c L I J T) ((i:Int),(j:Int))=some (.inl ((r:Int),(r:Int)))/\(r=lo\/q (r - 1)=true)/\(r=hi\/q r=false):=by
 intro n
 induction n with
 |zero=>
  intro i j hn h1 h2 E h4 h5
  have:i=j:=by omega
  subst this
  refine⟨i,h1,E,fd ?_,h4,h5⟩
  unfold Kp
  simp[h_]
 |succ n ih=>
  intro i j hn h1 h2 E h4 h5
  rcases Uu h2 with X|rfl
  ·have hd:decide ((i:Int)<(j:Int))=true:=by simp;omega
   have Z:=zG i j oM
   obtain⟨z,hz,d⟩:=hq ((i+j)/2) oM oM
   have f:IntKind.i64.wrap ((((i+j)/2:Nat):Int)+1)=(((i+j)/2+1:Nat):Int):=bB _ oM
   have C:Kp (R:=R) c L I J T ((i:Int),(j:Int))=bif q ((i+j)/2) then some (.inl ((((i+j)/2+1:Nat):Int),(j:Int))) else some (.inl ((i:Int),(((i+j)/2:Nat):Int))):=by
    unfold Kp
    dsimp only
    rw[hd,Z,f]
    dsimp only[cond_true]
    rw[hz,d]
    rfl
   cases e:q ((i+j)/2) with
   |true=>
    rw[e] at C
    obtain⟨r,g1,g2,g3,g4⟩:=ih ((i+j)/2+1) j oM oM oM E (.inr (by simpa using e)) h5
    exact⟨r,g1,g2,by rw[iI C];exact g3,g4⟩
   |false=>
    rw[e] at C
    obtain⟨r,g1,g2,g3,g4⟩:=ih i ((i+j)/2) oM h1 oM oM h4 (.inr e)
    exact⟨r,g1,g2,by rw[iI C];exact g3,g4⟩
  ·refine⟨i,h1,E,fd ?_,h4,h5⟩
   unfold Kp
   simp[h_]
def RI (i:Int):List α×Int->Option ((List α×Int)⊕((List α×Int)⊕(Unit×List α))):=fun s=>
 bif decide (s.2<IntKind.i64.wrap (i - 1)) then Gs s.1 s.2 (IntKind.i64.wrap (s.2+1)) (fun d=>some (.inl (d,IntKind.i64.wrap (s.2+1)))) else h_ (some (.inl (s.1,s.2)))
theorem MO (x:α) (B:List α):∀ (V A:List α) (i:Nat),A.length+V.length<=1152921504606846976->i=A.length+V.length+1->bc (RI (i:Int)) (A++x::V++B,(A.length:Int))=some (.inl (A++V++x::B,((i - 1:Nat):Int))):=by
 intro V
 induction V with
 |nil=>
  intro A i hb hi
  subst hi
  have w:IntKind.i64.wrap (((A.length+([]:List α).length+1:Nat):Int) - 1)=(A.length:Int):=by
   rw[S3] at *
   rw[bh _ oM oM];omega
  refine fd ?_
  unfold RI
  dsimp only
  rw[w]
  simp[h_]
 |cons v V ih=>
  intro A i hb hi
  simp only[ST] at hb hi
  have w:IntKind.i64.wrap ((i:Int) - 1)=((A.length+V.length+1:Nat):Int):=by rw[bh _ oM oM];omega
  have hd:decide ((A.length:Int)<((A.length+V.length+1:Nat):Int))=true:=by simp;omega
  have I:IntKind.i64.wrap ((A.length:Int)+1)=((A.length+1+([]:List α).length:Nat):Int):=by rw[bh _ oM oM];simp
  rw[iI (s':=((A++[v])++x::V++B,((A++[v]).length:Int)))]
  ·rw[ih (A++[v]) i oT oT]
   simp
  ·unfold RI
   dsimp only
   rw[w,hd,I]
   dsimp only[cond_true]
   rw[show A++x::v::V++B=A++x::([]++v::(V++B)) by simp,MK]
   simp
def QU (i:Int):List α×Int->Option ((List α×Int)⊕((List α×Int)⊕(Unit×List α))):=fun s=>
 bif decide (i<s.2) then Gs s.1 s.2 (IntKind.i64.wrap (s.2 - 1)) (fun d=>some (.inl (d,IntKind.i64.wrap (s.2 - 1)))) else h_ (some (.inl (s.1,s.2)))
theorem MP (y:α) (A:List α):∀ (n:Nat) (U B:List α),U.length<=n->A.length+U.length<=1152921504606846976->bc (QU (A.length:Int)) (A++U++y::B,((A.length+U.length:Nat):Int))=some (.inl (A++y::U++B,(A.length:Int))):=by
 intro n
 induction n with
 |zero=>
  intro U B hn hb
  have:U=[]:=Ta.1 oM
  subst this
  refine fd ?_
  unfold QU
  simp[h_]
 |succ n ih=>
  intro U B hn hb
  rcases Uy U with rfl|⟨Q,u,rfl⟩
  ·refine fd ?_
   unfold QU
   simp[h_]
  ·rw[Uz] at hn hb⊢
   simp only[SS,ST,S3] at hn hb
   have hd:decide ((A.length:Int)<((A.length+(Q++[u]).length:Nat):Int))=true:=by simp;omega
   have f:IntKind.i64.wrap (((A.length+(Q++[u]).length:Nat):Int) - 1)=(((A++Q).length:Nat):Int):=by rw[bh _ oT oT];simp;omega
   rw[iI (s':=(A++Q++y::(u::B),((A.length+Q.length:Nat):Int)))]
   ·rw[ih Q (u::B) oM oM]
    simp
   ·unfold QU
    dsimp only
    rw[hd,f,show A++(Q++[u])++y::B=(A++Q)++u::([]++y::B) by simp,show A.length+(Q++[u]).length=(A++Q).length+1+([]:List α).length by simp;omega]
    dsimp only[cond_true]
    rw[ML]
    simp
end
end
noncomputable section
variable {n:Nat}
section
variable {α:Type}
def IM (d:List α->Int->Int->Int->Option (Unit×List α)) (L:List α) (a s t e b:Int):Option (Unit×List α):=
 (m8 (decide (a<s)) (some (decide (s<t)))).bind fun v=>bif v then(d L a s t).bind fun y=>(m8 (decide (t<e)) (some (decide (e<b)))).bind fun v=>bif v then(d y.2 t e b).bind fun y=>some ((),y.2) else some ((),y.2)
  else(m8 (decide (t<e)) (some (decide (e<b)))).bind fun v=>bif v then(d L t e b).bind fun y=>some ((),y.2) else some ((),L)
def MQ (d:List α->Int->Int->Int->Option (Unit×List α)) (L:List α) (a m b:Int):Int×Int->Option (Unit×List α):=fun s=>
 (m8 (decide (s.1<m)) (some (decide (m<IntKind.i64.wrap (IntKind.i64.wrap (ns a b+m) - s.1))))).bind fun v=>bif v then(OO L s.1 m (IntKind.i64.wrap (IntKind.i64.wrap (ns a b+m) - s.1))).bind fun y=>IM d y.2 a s.1 (ns a b) (IntKind.i64.wrap (IntKind.i64.wrap (ns a b+m) - s.1)) b
  else IM d L a s.1 (ns a b) (IntKind.i64.wrap (IntKind.i64.wrap (ns a b+m) - s.1)) b
def QM (c:α->α->Option Int) (d:List α->Int->Int->Int->Option (Unit×List α)) (L:List α) (a m b:Int):Option (Unit×List α):=
 bif decide (IntKind.i64.wrap (m - a)=1) then(bc (Kp c L (fun h=>h) (fun _=>a) (fun x=>decide (x<0))) (m,b)).bind (c3 fun s=>(bc (RI s.1) (L,a)).bind (c3 fun s=>some ((),s.1)))
 else bif decide (IntKind.i64.wrap (b - m)=1) then(bc (Kp c L (fun _=>m) (fun h=>h) (fun x=> !decide (x<0))) (a,m)).bind (c3 fun s=>(bc (QU s.1) (L,m)).bind (c3 fun s=>some ((),s.1)))
 else mh (QQ .u64 1) (bif decide (ns a b<m) then(bc (Kp c L (fun h=>IntKind.i64.wrap (IntKind.i64.wrap (IntKind.i64.wrap (ns a b+m) - 1) - h)) (fun h=>h) (fun x=> !decide (x<0))) (IntKind.i64.wrap (IntKind.i64.wrap (ns a b+m) - b),ns a b)).bind (c3 (MQ d L a m b))
  else(bc (Kp c L (fun h=>IntKind.i64.wrap (IntKind.i64.wrap (IntKind.i64.wrap (ns a b+m) - 1) - h)) (fun h=>h) (fun x=> !decide (x<0))) (a,m)).bind (c3 (MQ d L a m b)))
def Ke (c:α->α->Option Int):Nat->List α->Int->Int->Int->Option (Unit×List α)
 |0=>fun _ _ _ _=>none
 |fu+1=>QM c (Ke c fu)
theorem MR (A U V B:List α) (k:Nat) (h:k<U.length):(A++U++V++B)[A.length+k]?=U[k]?:=by
 rw[S6,S6,Tr oM,show A.length+k - A.length=k by omega,TP h]
theorem MS (A U V B:List α) (k:Nat) (h:k<V.length):(A++U++V++B)[A.length+U.length+k]?=V[k]?:=by
 rw[S6,Tr oS,SS,show A.length+U.length+k - (A.length+U.length)=k by omega,TP h]
def Gt (Q:α->Prop) (lt:α->α->Bool) (n:Nat) (d:List α->Int->Int->Int->Option (Unit×List α)):Prop:=∀ A U V B:List α,U≠[]->V≠[]->(∀ u∈U,Q u)->(∀ v∈V,Q v)->mT lt U->mT lt V->U.length+V.length<=n->A.length+U.length+V.length+B.length<=1152921504606846976->
 ∃ W,d (A++U++V++B) ((A.length:Nat):Int) ((A.length+U.length:Nat):Int) ((A.length+U.length+V.length:Nat):Int)=some ((),A++W++B)/\mT lt W/\SP lt (U++V) W
theorem IO (x y:Bool):m8 x (some y)=some (x&&y):=by cases x<;>rfl
theorem Gu {Q:α->Prop} {lt:α->α->Bool} {d:List α->Int->Int->Int->Option (Unit×List α)} (D:Gt Q lt n d) (A U V B:List α) (m:∀ u∈U,Q u) (i:∀ v∈V,Q v) (hU:mT lt U) (hV:mT lt V) (hn:U.length+V.length<=n) (hb:A.length+U.length+V.length+B.length<=1152921504606846976) (k:Unit×List α->Option (Unit×List α)) (K:Option (Unit×List α)) (hK:K=k ((),A++U++V++B)):
  ∃ W,((m8 (decide (((A.length:Nat):Int)<((A.length+U.length:Nat):Int))) (some (decide (((A.length+U.length:Nat):Int)<((A.length+U.length+V.length:Nat):Int))))).bind fun v=>bif v then(d (A++U++V++B) ((A.length:Nat):Int) ((A.length+U.length:Nat):Int) ((A.length+U.length+V.length:Nat):Int)).bind k else K)=k ((),A++W++B)/\mT lt W/\SP lt (U++V) W:=by
 rw[IO,SQ]
 cases U with
 |nil=>
  refine⟨V, ?_,hV,SP.refl _ _⟩
  have:decide (((A.length:Nat):Int)<((A.length+([]:List α).length:Nat):Int))=false:=by simp
  rw[this,hK];simp
 |cons u U=>
  cases V with
  |nil=>
   refine⟨u::U, ?_,hU,by simpa using SP.refl lt (u::U)⟩
   have:decide (((A.length+(u::U).length:Nat):Int)<((A.length+(u::U).length+([]:List α).length:Nat):Int))=false:=by simp
   rw[this,hK];simp
  |cons v V=>
   obtain⟨W,h1,h2⟩:=D A (u::U) (v::V) B oS oS m i hU hV hn hb
   refine⟨W, ?_,h2⟩
   have e1:decide (((A.length:Nat):Int)<((A.length+(u::U).length:Nat):Int))=true:=by simp;omega
   have e2:decide (((A.length+(u::U).length:Nat):Int)<((A.length+(u::U).length+(v::V).length:Nat):Int))=true:=by simp;omega
   rw[e1,e2,h1];rfl
theorem MU {Q:α->Prop} {lt:α->α->Bool} {d:List α->Int->Int->Int->Option (Unit×List α)} (D:Gt Q lt n d) (A i l j o B:List α) (q1:∀ u∈i,Q u) (W:∀ u∈l,Q u) (q3:∀ u∈j,Q u) (q4:∀ u∈o,Q u) (h1:mT lt i) (h2:mT lt l) (E:mT lt j) (h4:mT lt o) (r:i.length+l.length<=n) (g:j.length+o.length<=n) (hb:A.length+i.length+l.length+j.length+o.length+B.length<=1152921504606846976) (a s t e b:Int) (ha:a=(A.length:Nat)) (hs:s=((A.length+i.length:Nat):Int)) (Z:t=((A.length+i.length+l.length:Nat):Int)) (he:e=((A.length+i.length+l.length+j.length:Nat):Int)) (q:b=((A.length+i.length+l.length+j.length+o.length:Nat):Int)):
  ∃ c f,IM d (A++i++l++j++o++B) a s t e b=some ((),A++c++f++B)/\mT lt c/\SP lt (i++l) c/\mT lt f/\SP lt (j++o) f:=by
 obtain⟨c,g1,g2,g3⟩:=Gu D A i l (j++o++B) q1 W h1 h2 r oT (fun y=>(m8 (decide (t<e)) (some (decide (e<b)))).bind fun v=>bif v then(d y.2 t e b).bind fun y=>some ((),y.2) else some ((),y.2))
  ((m8 (decide (t<e)) (some (decide (e<b)))).bind fun v=>bif v then(d (A++i++l++(j++o++B)) t e b).bind fun y=>some ((),y.2) else some ((),A++i++l++(j++o++B))) rfl
 have M:c.length=i.length+l.length:=by rw[<-g3.1.length_eq,SS]
 obtain⟨f,k1,k2,k3⟩:=Gu D (A++c) j o B q3 q4 E h4 g (by rw[SS];omega) (fun y=>some ((),y.2)) (some ((),A++c++j++o++B)) rfl
 refine⟨c,f, ?_,g2,g3,k2,k3⟩
 unfold IM
 have e0:A++i++l++j++o++B=A++i++l++(j++o++B):=by simp
 rw[e0]
 rw[<-hs,<-Z,<-ha] at g1
 rw[g1]
 rw[show(A++c).length+j.length=A.length+i.length+l.length+j.length by rw[SS];omega,show(A++c).length=A.length+i.length+l.length by rw[SS];omega,<-he,<-Z,<-q] at k1
 rw[show A++c++(j++o++B)=A++c++j++o++B by simp]
 exact k1
theorem Kf {lt:α->α->Bool} (O:oP lt) {U V c f:List α} {k l:Nat} (hU:mT lt U) (hV:mT lt V) (T:k=0\/V.length<=l\/∃ u v,U[k - 1]?=some u/\V[l]?=some v/\lt v u=false) (c2:l=0\/U.length<=k\/∃ u v,V[l - 1]?=some v/\U[k]?=some u/\lt v u=true) (h1:mT lt c) (h2:SP lt (U.take k++V.take l) c) (E:mT lt f) (h4:SP lt (U.drop k++V.drop l) f):mT lt (c++f)/\SP lt (U++V) (c++f):=by
 have H:∀ u∈U.take k,∀ v∈V.drop l,lt v u=false:=by
  rcases T with rfl|h|⟨u,v,g1,g2,g3⟩
  ·simp
  ·rw[Uo h];simp
  ·intro q i
   have M:lt v q=false:=tP hU (P:=fun w=>lt v w=false) O (fun w w' h g=>O.tr w' w v h g) (.inr ⟨u,g1,g3⟩) q i
   exact xb hV (P:=fun w=>lt w q=false) (fun w w' h g=>O.tr q w w' g h) (.inr ⟨v,g2,M⟩)
 have d2:∀ u∈U.drop k,∀ v∈V.take l,lt v u=true:=by
  rcases c2 with rfl|h|⟨u,v,g1,g2,g3⟩
  ·simp
  ·rw[Uo h];simp
  ·intro q i
   have M:lt v q=true:=xb hU (P:=fun w=>lt v w=true) (fun w w' h g=>O.lt_right h g) (.inr ⟨u,g2,g3⟩) q i
   exact tP hV (P:=fun w=>lt w q=true) O (fun w w' h g=>O.lt_left h g) (.inr ⟨v,g1,M⟩)
 have o:mT lt (U.take k++U.drop k):=by rwa[Tl]
 have p:mT lt (V.take l++V.drop l):=by rwa[Tl]
 have d:=(jz.1 o).2.2
 have j:=(jz.1 p).2.2
 refine⟨jz.2 ⟨h1,E,fun a ha b hb=> ?_⟩, ?_⟩
 ·rcases Te.1 (h2.1.symm.subset ha) with ha|ha<;>rcases Te.1 (h4.1.symm.subset hb) with hb|hb
  ·exact d a ha b hb
  ·exact H a ha b hb
  ·exact O.asym _ _ (d2 b hb a ha)
  ·exact j a ha b hb
 ·have e:U++V=U.take k++(U.drop k++V.take l)++V.drop l:=by
   rw[<-S6,Tl,S6,Tl]
  rw[e]
  refine((SP.refl lt (U.take k)).app (SP.swap O d2)).app (SP.refl lt (V.drop l))|>.trans ?_
  rw[show U.take k++(V.take l++U.drop k)++V.drop l=(U.take k++V.take l)++(U.drop k++V.drop l) by simp]
  exact h2.app h4
theorem Kg {Q:α->Prop} {lt:α->α->Bool} (O:oP lt) {d:List α->Int->Int->Int->Option (Unit×List α)} (D:Gt Q lt n d) (A U V B:List α) (m:∀ u∈U,Q u) (i:∀ v∈V,Q v) (hU:mT lt U) (hV:mT lt V) (hb:A.length+U.length+V.length+B.length<=1152921504606846976) (r k l:Nat) (hk:r=A.length+k) (g:k<=U.length) (L:l<=V.length) (r1:A.length+k+l=(A.length+(A.length+U.length+V.length))/2) (hn:U.length+V.length<=2 * n) (T:k=0\/V.length<=l\/∃ u v,U[k - 1]?=some u/\V[l]?=some v/\lt v u=false) (c2:l=0\/U.length<=k\/∃ u v,V[l - 1]?=some v/\U[k]?=some u/\lt v u=true):
  ∃ W,MQ d (A++U++V++B) ((A.length:Nat):Int) ((A.length+U.length:Nat):Int) ((A.length+U.length+V.length:Nat):Int) ((r:Int),(r:Int))=some ((),A++W++B)/\mT lt W/\SP lt (U++V) W:=by
 have q:(U.take k).length=k:=by rw[Th];omega
 have b:(U.drop k).length=U.length - k:=TQ
 have e:(V.take l).length=l:=by rw[Th];omega
 have s:(V.drop l).length=V.length - l:=TQ
 have o:mT lt (U.take k++U.drop k):=by rwa[Tl]
 have p:mT lt (V.take l++V.drop l):=by rwa[Tl]
 have a:ns ((A.length:Nat):Int) ((A.length+U.length+V.length:Nat):Int)=((A.length+k+l:Nat):Int):=by rw[zG _ _ oM,r1]
 have t:IntKind.i64.wrap (IntKind.i64.wrap (((A.length+k+l:Nat):Int)+((A.length+U.length:Nat):Int)) - (r:Int))=((A.length+U.length+l:Nat):Int):=by
  rw[bh (((A.length+k+l:Nat):Int)+((A.length+U.length:Nat):Int)) oM oM,bh _ oM oM];omega
 obtain⟨c,f,j,t2,t3,t4,t5⟩:=MU D A (U.take k) (V.take l) (U.drop k) (V.drop l) B (fun u h=>m u (Tv h)) (fun u h=>i u (Tv h)) (fun u h=>m u (Ua h)) (fun u h=>i u (Ua h)) (jz.1 o).1 (jz.1 p).1 (jz.1 o).2.1 (jz.1 p).2.1 oM oM oM
  ((A.length:Nat):Int) (r:Int) ((A.length+k+l:Nat):Int) ((A.length+U.length+l:Nat):Int) ((A.length+U.length+V.length:Nat):Int) rfl oM oM oM oM
 obtain⟨m1,m2⟩:=Kf O hU hV T c2 t2 t3 t4 t5
 refine⟨c++f, ?_,m1,m2⟩
 unfold MQ
 dsimp only
 rw[a,t,IO,SQ,show A++(c++f)++B=A++c++f++B by simp,<-j]
 have e0:A++U++V++B=(A++U.take k)++U.drop k++V.take l++(V.drop l++B):=by
  have w:A++U++V++B=A++(U.take k++U.drop k)++(V.take l++V.drop l)++B:=by rw[Tl,Tl]
  rw[w];simp only[S6]
 by_cases hc:k<U.length/\0<l
 ·have e1:decide ((r:Int)<((A.length+U.length:Nat):Int))=true:=by simp;omega
  have e2:decide (((A.length+U.length:Nat):Int)<((A.length+U.length+l:Nat):Int))=true:=by simp;omega
  rw[e1,e2,e0,OP (A++U.take k) (U.drop k) (V.take l) (V.drop l++B) _ _ _ (by intro h0;rw[h0] at b;simp at b;omega) (by intro h0;rw[h0] at e;simp at e;omega) (by simp only[SS];omega) (by rw[SS];omega) (by rw[SS];omega) (by rw[SS];omega)]
  simp
 ·have e1:(decide ((r:Int)<((A.length+U.length:Nat):Int))&&decide (((A.length+U.length:Nat):Int)<((A.length+U.length+l:Nat):Int)))=false:=by
   rw[Bool.and_eq_false_iff,Tk,Tk];omega
  rw[e1,e0]
  have e2:(A++U.take k)++U.drop k++V.take l++(V.drop l++B)=A++U.take k++V.take l++U.drop k++V.drop l++B:=by
   rcases U0 l with rfl|hl
   ·simp
   ·rw[Uo (show U.length<=k by omega)];simp only[S6,S8]
  rw[e2];rfl
end
end
section
variable {α:Type}
theorem MV {Q:α->Prop} {c:α->α->Option Int} {lt:α->α->Bool} (O:oP lt) (hc:IJ Q c lt) {n:Nat} {d:List α->Int->Int->Int->Option (Unit×List α)} (D:Gt Q lt n d) (A U V B:List α) (m:∀ u∈U,Q u) (i:∀ v∈V,Q v) (hU:mT lt U) (hV:mT lt V) (hb:A.length+U.length+V.length+B.length<=1152921504606846976) (hn:U.length+V.length<=2 * n) (lo hi t:Nat) (b:t=(A.length+(A.length+U.length+V.length))/2) (h1:A.length<=lo) (h2:lo<=hi) (E:hi<=A.length+U.length) (h4:hi<=t) (h5:t+(A.length+U.length)<=A.length+U.length+V.length+lo) (h6:lo=A.length\/t+(A.length+U.length)=A.length+U.length+V.length+lo) (h7:hi=A.length+U.length\/hi=t):
  ∃ W,(bc (Kp c (A++U++V++B) (fun h=>IntKind.i64.wrap (IntKind.i64.wrap (IntKind.i64.wrap (ns ((A.length:Nat):Int) ((A.length+U.length+V.length:Nat):Int)+((A.length+U.length:Nat):Int)) - 1) - h)) (fun h=>h) (fun x=> !decide (x<0))) ((lo:Int),(hi:Int))).bind (c3 (MQ d (A++U++V++B) ((A.length:Nat):Int) ((A.length+U.length:Nat):Int) ((A.length+U.length+V.length:Nat):Int)))=some ((),A++W++B)/\mT lt W/\SP lt (U++V) W:=by
 have a:ns ((A.length:Nat):Int) ((A.length+U.length+V.length:Nat):Int)=((t:Nat):Int):=by rw[zG _ _ oM,b]
 let q:Nat->Bool:=fun h=>match U[h - A.length]?,V[t - 1 - h]? with
  |some u,some v=> !lt v u
  |_,_=>true
 have hx:∀ h,lo<=h->h<hi->∃ u v,U[h - A.length]?=some u/\V[t - 1 - h]?=some v/\q h= !lt v u:=by
  intro h g1 g2
  have M:h - A.length<U.length:=by omega
  have a2:t - 1 - h<V.length:=by omega
  refine⟨_,_,S0 M,S0 a2, ?_⟩
  simp only[q,S0 M,S0 a2]
 obtain⟨r,r1,r2,r3,r4,r5⟩:=HH (R:=Unit×List α) (c:=c) (L:=A++U++V++B) (I:=fun h=>IntKind.i64.wrap (IntKind.i64.wrap (IntKind.i64.wrap (ns ((A.length:Nat):Int) ((A.length+U.length+V.length:Nat):Int)+((A.length+U.length:Nat):Int)) - 1) - h)) (J:=fun h=>h) (T:=fun x=> !decide (x<0)) q lo hi oM (by
  intro h g1 g2
  obtain⟨u,v,e1,e2,e3⟩:=hx h g1 g2
  have b1:=MR A U V B (h - A.length) oM
  have b2:=MS A U V B (t - 1 - h) oM
  rw[e1] at b1
  rw[e2] at b2
  obtain⟨z,N,z2⟩:=BV hc (i v (SW e2)) (m u (SW e1)) b2 b1
  refine⟨z,fun{R} k=> ?_,by rw[e3,<-z2]⟩
  rw[a,bh (((t:Nat):Int)+((A.length+U.length:Nat):Int)) oM oM,bh (((t:Nat):Int)+((A.length+U.length:Nat):Int) - 1) oM oM,bh _ oM oM,
   show(((t:Nat):Int)+((A.length+U.length:Nat):Int) - 1 - (h:Int))=((A.length+U.length+(t - 1 - h):Nat):Int) by omega,show(h:Int)=((A.length+(h - A.length):Nat):Int) by omega]
  exact N k) (hi - lo) lo hi oM (SZ _) h2 (SZ _) (.inl rfl) (.inl rfl)
 rw[r3]
 refine Kg O D A U V B m i hU hV hb r (r - A.length) (t - r) oM oM oM oM hn ?_ ?_
 ·rcases r4 with r4|r4
  ·rcases h6 with h6|h6
   ·exact .inl oM
   ·exact .inr (.inl oM)
  ·rcases Uu r1 with r1|r1
   ·obtain⟨u,v,e1,e2,e3⟩:=hx (r - 1) oM oM
    refine .inr (.inr ⟨u,v, ?_, ?_, ?_⟩)
    ·rw[show r - A.length - 1=r - 1 - A.length by omega];exact e1
    ·rw[show t - r=t - 1 - (r - 1) by omega];exact e2
    ·rw[e3] at r4;simpa using r4
   ·rcases h6 with h6|h6
    ·exact .inl oM
    ·exact .inr (.inl oM)
 ·rcases r5 with r5|r5
  ·rcases h7 with h7|h7
   ·exact .inr (.inl oM)
   ·exact .inl oM
  ·rcases Uu r2 with r2|r2
   ·obtain⟨u,v,e1,e2,e3⟩:=hx r oM oM
    refine .inr (.inr ⟨u,v, ?_,e1, ?_⟩)
    ·rw[show t - r - 1=t - 1 - r by omega];exact e2
    ·rw[e3] at r5;simpa using r5
   ·rcases h7 with h7|h7
    ·exact .inr (.inl oM)
    ·exact .inl oM
theorem OQ {Q:α->Prop} {c:α->α->Option Int} {lt:α->α->Bool} (O:oP lt) (hc:IJ Q c lt) (A V B:List α) (x:α) (qx:Q x) (i:∀ v∈V,Q v) (hV:mT lt V) (hb:A.length+V.length+B.length+1<=1152921504606846976):
  ∃ W,(bc (Kp c (A++[x]++V++B) (fun h=>h) (fun _=>((A.length:Nat):Int)) (fun x=>decide (x<0))) (((A.length+1:Nat):Int),((A.length+1+V.length:Nat):Int))).bind (c3 fun s=>(bc (RI s.1) ((A++[x]++V++B),((A.length:Nat):Int))).bind (c3 fun s=>some ((),s.1)))=some ((),A++W++B)/\mT lt W/\SP lt ([x]++V) W:=by
 let q:Nat->Bool:=fun h=>match V[h - (A.length+1)]? with
  |some v=>lt v x
  |_=>true
 have hx:∀ h,A.length+1<=h->h<A.length+1+V.length->∃ v,V[h - (A.length+1)]?=some v/\q h=lt v x:=by
  intro h g1 g2
  have a2:h - (A.length+1)<V.length:=by omega
  refine⟨_,S0 a2, ?_⟩
  simp only[q,S0 a2]
 obtain⟨r,r1,r2,r3,r4,r5⟩:=HH (R:=Unit×List α) (c:=c) (L:=A++[x]++V++B) (I:=fun h=>h) (J:=fun _=>((A.length:Nat):Int)) (T:=fun x=>decide (x<0)) q (A.length+1) (A.length+1+V.length) oM (by
  intro h g1 g2
  obtain⟨v,e2,e3⟩:=hx h g1 g2
  have b1:=MR A [x] V B 0 oS
  have b2:=MS A [x] V B (h - (A.length+1)) oM
  rw[e2] at b2
  obtain⟨z,N,z2⟩:=BV hc (i v (SW e2)) qx b2 b1
  refine⟨z,fun{R} k=> ?_,by rw[e3,<-z2]⟩
  rw[show(h:Int)=((A.length+[x].length+(h - (A.length+1)):Nat):Int) by simp only[ST,S3];omega]
  exact N k) V.length (A.length+1) (A.length+1+V.length) oM (SZ _) oM (SZ _) (.inl rfl) (.inl rfl)
 have d:∀ v∈V.take (r - (A.length+1)),lt v x=true:=tP hV (P:=fun w=>lt w x=true) O (fun w w' h g=>O.lt_left h g) (by
  rcases Uu r1 with r1|r1
  ·rcases r4 with r4|r4
   ·exact .inl oM
   ·obtain⟨v,e2,e3⟩:=hx (r - 1) oM oM
    exact .inr ⟨v,by rw[show r - (A.length+1) - 1=r - 1 - (A.length+1) by omega];exact e2,by rw[<-e3];exact r4⟩
  ·exact .inl oM)
 have f:∀ v∈V.drop (r - (A.length+1)),lt v x=false:=xb hV (P:=fun w=>lt w x=false) (fun w w' h g=>O.tr x w w' g h) (by
  rcases Uu r2 with r2|r2
  ·rcases r5 with r5|r5
   ·exact .inl oM
   ·obtain⟨v,e2,e3⟩:=hx r oM oM
    exact .inr ⟨v,e2,by rw[<-e3];exact r5⟩
  ·exact .inl oM)
 have hk:(V.take (r - (A.length+1))).length=r - (A.length+1):=by rw[Th];omega
 have e:=Tl (r - (A.length+1)) V
 generalize V.take (r - (A.length+1))=l at *
 generalize V.drop (r - (A.length+1))=o at *
 subst e
 have hs:=jz.1 hV
 refine⟨l++x::o, ?_, ?_, ?_⟩
 ·rw[r3]
  simp only[SQ,c3]
  rw[show A++[x]++(l++o)++B=A++x::l++(o++B) by simp,MO x (o++B) l A r (by simp only[SS] at hb;omega) oM]
  simp[c3]
 ·exact jz.2 ⟨hs.1,UA.2 ⟨f,hs.2.1⟩,fun a ha b hb=>by
   rcases Tf.1 hb with rfl|hb
   ·exact O.asym _ _ (d a ha)
   ·exact hs.2.2 a ha b hb⟩
 ·rw[<-S6,show l++x::o=(l++[x])++o by simp]
  exact(SP.swap O (fun u hu v hv=>by rw[Tj.1 hu];exact d v hv)).app (SP.refl lt o)
theorem OR {Q:α->Prop} {c:α->α->Option Int} {lt:α->α->Bool} (O:oP lt) (hc:IJ Q c lt) (A U B:List α) (y:α) (qy:Q y) (m:∀ u∈U,Q u) (hU:mT lt U) (hb:A.length+U.length+B.length+1<=1152921504606846976):
  ∃ W,(bc (Kp c (A++U++[y]++B) (fun _=>((A.length+U.length:Nat):Int)) (fun h=>h) (fun x=> !decide (x<0))) (((A.length:Nat):Int),((A.length+U.length:Nat):Int))).bind (c3 fun s=>(bc (QU s.1) ((A++U++[y]++B),((A.length+U.length:Nat):Int))).bind (c3 fun s=>some ((),s.1)))=some ((),A++W++B)/\mT lt W/\SP lt (U++[y]) W:=by
 let q:Nat->Bool:=fun h=>match U[h - A.length]? with
  |some u=> !lt y u
  |_=>true
 have hx:∀ h,A.length<=h->h<A.length+U.length->∃ u,U[h - A.length]?=some u/\q h= !lt y u:=by
  intro h g1 g2
  have a2:h - A.length<U.length:=by omega
  refine⟨_,S0 a2, ?_⟩
  simp only[q,S0 a2]
 obtain⟨r,r1,r2,r3,r4,r5⟩:=HH (R:=Unit×List α) (c:=c) (L:=A++U++[y]++B) (I:=fun _=>((A.length+U.length:Nat):Int)) (J:=fun h=>h) (T:=fun x=> !decide (x<0)) q A.length (A.length+U.length) oM (by
  intro h g1 g2
  obtain⟨v,e2,e3⟩:=hx h g1 g2
  have b1:=MS A U [y] B 0 oS
  have b2:=MR A U [y] B (h - A.length) oM
  rw[e2] at b2
  obtain⟨z,N,z2⟩:=BV hc qy (m v (SW e2)) b1 b2
  refine⟨z,fun{R} k=> ?_,by rw[e3,<-z2]⟩
  rw[show(h:Int)=((A.length+(h - A.length):Nat):Int) by omega]
  exact N k) U.length A.length (A.length+U.length) oM (SZ _) oM (SZ _) (.inl rfl) (.inl rfl)
 have d:∀ v∈U.take (r - A.length),lt y v=false:=tP hU (P:=fun w=>lt y w=false) O (fun w w' h g=>O.tr w' w y h g) (by
  rcases Uu r1 with r1|r1
  ·rcases r4 with r4|r4
   ·exact .inl oM
   ·obtain⟨v,e2,e3⟩:=hx (r - 1) oM oM
    exact .inr ⟨v,by rw[show r - A.length - 1=r - 1 - A.length by omega];exact e2,by rw[e3] at r4;simpa using r4⟩
  ·exact .inl oM)
 have f:∀ v∈U.drop (r - A.length),lt y v=true:=xb hU (P:=fun w=>lt y w=true) (fun w w' h g=>O.lt_right h g) (by
  rcases Uu r2 with r2|r2
  ·rcases r5 with r5|r5
   ·exact .inl oM
   ·obtain⟨v,e2,e3⟩:=hx r oM oM
    exact .inr ⟨v,e2,by rw[e3] at r5;simpa using r5⟩
  ·exact .inl oM)
 have hk:(U.take (r - A.length)).length=r - A.length:=by rw[Th];omega
 have e:=Tl (r - A.length) U
 generalize U.take (r - A.length)=i at *
 generalize U.drop (r - A.length)=j at *
 subst e
 have hs:=jz.1 hU
 refine⟨i++y::j, ?_, ?_, ?_⟩
 ·rw[r3]
  simp only[SQ,c3]
  have:=MP y (A++i) j.length j B (SZ _) (by simp only[SS] at hb⊢;omega)
  rw[show A++(i++j)++[y]++B=A++i++j++y::B by simp,show A.length+(i++j).length=(A++i).length+j.length by simp;omega,show r=(A++i).length by rw[SS];omega,this]
  simp[c3]
 ·exact jz.2 ⟨hs.1,UA.2 ⟨fun v hv=>O.asym _ _ (f v hv),hs.2.1⟩,fun a ha b hb=>by
   rcases Tf.1 hb with rfl|hb
   ·exact d a ha
   ·exact hs.2.2 a ha b hb⟩
 ·rw[S6]
  exact(SP.refl lt i).app (SP.swap O (fun u hu v hv=>by rw[Tj.1 hv];exact f u hu))
theorem OS {Q:α->Prop} {c:α->α->Option Int} {lt:α->α->Bool} (O:oP lt) (hc:IJ Q c lt):∀ fu,Gt Q lt (2^fu) (Ke c fu):=by
 intro fu
 induction fu with
 |zero=>
  intro A U V B hU hV _ _ _ _ hn _
  have:=Ux.2 hU
  have:=Ux.2 hV
  simp at hn;omega
 |succ fu ih=>
  intro A U V B hU hV m i o p hn hb
  have r:=Ux.2 hU
  have t:=Ux.2 hV
  rw[Nat.pow_succ] at hn
  have f:IntKind.i64.wrap (((A.length+U.length:Nat):Int) - ((A.length:Nat):Int))=((U.length:Nat):Int):=by rw[bh _ oM oM];omega
  have I:IntKind.i64.wrap (((A.length+U.length+V.length:Nat):Int) - ((A.length+U.length:Nat):Int))=((V.length:Nat):Int):=by rw[bh _ oM oM];omega
  show∃ W,QM c (Ke c fu) _ _ _ _=_/\_
  unfold QM
  rw[f,I]
  rcases Ty 1 U.length with h1|h1
  ·have H:decide (((U.length:Nat):Int)=1)=false:=by simp;omega
   rw[H]
   rcases Ty 1 V.length with h2|h2
   ·have d2:decide (((V.length:Nat):Int)=1)=false:=by simp;omega
    rw[d2]
    have a:ns ((A.length:Nat):Int) ((A.length+U.length+V.length:Nat):Int)=(((A.length+(A.length+U.length+V.length))/2:Nat):Int):=zG _ _ oM
    show∃ W,(bif decide _ then _ else _)=_/\_
    by_cases Z:(A.length+(A.length+U.length+V.length))/2<A.length+U.length
    ·have q:decide (ns ((A.length:Nat):Int) ((A.length+U.length+V.length:Nat):Int)<((A.length+U.length:Nat):Int))=true:=by rw[a];simp only[S5];omega
     rw[q]
     dsimp only[cond_true]
     have G:IntKind.i64.wrap (IntKind.i64.wrap (ns ((A.length:Nat):Int) ((A.length+U.length+V.length:Nat):Int)+((A.length+U.length:Nat):Int)) - ((A.length+U.length+V.length:Nat):Int))=(((A.length+(A.length+U.length+V.length))/2+(A.length+U.length) - (A.length+U.length+V.length):Nat):Int):=by
      rw[a,bh ((((A.length+(A.length+U.length+V.length))/2:Nat):Int)+((A.length+U.length:Nat):Int)) oM oM,bh _ oM oM];omega
     have:=MV O hc ih A U V B m i o p hb oM ((A.length+(A.length+U.length+V.length))/2+(A.length+U.length) - (A.length+U.length+V.length)) ((A.length+(A.length+U.length+V.length))/2) ((A.length+(A.length+U.length+V.length))/2) rfl oM oM oM oM oM (.inr oM) (.inr rfl)
     rw[G]
     rw[<-a] at this
     exact this
    ·have q:decide (ns ((A.length:Nat):Int) ((A.length+U.length+V.length:Nat):Int)<((A.length+U.length:Nat):Int))=false:=by rw[a];simp only[Tk];omega
     rw[q]
     dsimp only[cond_false]
     exact MV O hc ih A U V B m i o p hb oM A.length (A.length+U.length) ((A.length+(A.length+U.length+V.length))/2) rfl oM oM oM oM oM (.inl rfl) (.inl rfl)
   ·have hv:V.length=1:=by omega
    have d2:decide (((V.length:Nat):Int)=1)=true:=by rw[hv];rfl
    rw[d2]
    dsimp only[cond_true,cond_false]
    match V,hv with
    |[y],_=>exact OR O hc A U B y (i y oS) m o (by simp at hb;omega)
  ·have hu:U.length=1:=by omega
   have H:decide (((U.length:Nat):Int)=1)=true:=by rw[hu];rfl
   rw[H]
   dsimp only[cond_true]
   match U,hu with
   |[x],_=>exact OQ O hc A V B x (m x oS) i p (by simp at hb;omega)
end
noncomputable section
variable {bs fu:Nat}
section
variable {α:Type}
inductive zn (lt:α->α->Bool) (bs:Nat):List α->Prop
 |last {U:List α}:U.length<=bs->mT lt U->zn lt bs U
 |cons {U L:List α}:U.length=bs->mT lt U->zn lt bs L->zn lt bs (U++L)
theorem zn.split {lt:α->α->Bool} {T:List α} (h:zn lt bs T) (hl:bs<=T.length):∃ U L,T=U++L/\U.length=bs/\mT lt U/\zn lt bs L:=by
 cases h with
 |last h1 h2=>exact⟨T,[],by simp,by omega,h2,.last oS List.Pairwise.nil⟩
 |cons h1 h2 E=>exact⟨_,_,rfl,h1,h2,E⟩
theorem zn.one {lt:α->α->Bool} {T:List α} (h:zn lt bs T) (hl:T.length<=bs):mT lt T:=by
 cases h with
 |last h1 h2=>exact h2
 | @cons U L h1 h2 E=>
  rw[SS] at hl
  have:L=[]:=Ta.1 oM
  rw[this,Tg];exact h2
def OT (c:α->α->Option Int) (n:Int):List α×Int×Int->Option ((List α×Int×Int)⊕((List α×Int×Int)⊕(Unit×List α))):=fun s=>
 bif decide (s.2.2<=n) then(Kb c s.1 s.2.1 s.2.2).bind fun y=>some (.inl (y.2,s.2.2,IntKind.i64.wrap (s.2.2+20))) else h_ (some (.inl (s.1,s.2.1,s.2.2)))
def OU (c:α->α->Option Int) (fu:Nat) (n bs:Int):List α×Int×Int->Option ((List α×Int×Int)⊕((List α×Int×Int)⊕((List α×Int)⊕((List α×Int)⊕(Unit×List α))))):=fun t=>
 bif decide (t.2.2<=n) then(Ke c fu t.1 t.2.1 (IntKind.i64.wrap (t.2.1+bs)) t.2.2).bind fun y=>some (.inl (y.2,t.2.2,IntKind.i64.wrap (t.2.2+IntKind.i64.wrap (2 * bs)))) else h_ (some (.inl (t.1,t.2.1,t.2.2)))
def QO (c:α->α->Option Int) (fu:Nat) (n bs:Int):List α×Int×Int->Option ((List α×Int)⊕((List α×Int)⊕(Unit×List α))):=fun t=>
 bif decide (IntKind.i64.wrap (t.2.1+bs)<n) then(Ke c fu t.1 t.2.1 (IntKind.i64.wrap (t.2.1+bs)) n).bind fun y=>some (.inl (y.2,IntKind.i64.wrap (bs * 2))) else some (.inl (t.1,IntKind.i64.wrap (bs * 2)))
def Kh (c:α->α->Option Int) (fu:Nat) (n:Int):List α×Int->Option ((List α×Int)⊕((List α×Int)⊕(Unit×List α))):=fun s=>
 bif decide (s.2<n) then(bc (OU c fu n s.2) (s.1,0,IntKind.i64.wrap (2 * s.2))).bind (c3 (QO c fu n s.2)) else h_ (some (.inl (s.1,s.2)))
def RJ (c:α->α->Option Int) (fu:Nat) (L:List α) (n:Int):Option (Unit×List α):=
 (bc (OT c n) (L,0,20)).bind (c3 fun s=>(Kb c s.1 s.2.1 n).bind fun y=>(bc (Kh c fu n) (y.2,20)).bind (c3 fun s=>some ((),s.1)))
theorem Ki {Q:α->Prop} {c:α->α->Option Int} {lt:α->α->Bool} (O:oP lt) (hc:IJ Q c lt) (K:List α->Option (Unit×List α)):∀ (k:Nat) (D T:List α) (n:Nat),(∀ x∈T,Q x)->T.length<=k->n=D.length+T.length->n<=137438953472->
  ∃ b,(bc (OT c (n:Int)) (D++T,((D.length:Nat):Int),((D.length+20:Nat):Int))).bind (c3 fun s=>(Kb c s.1 s.2.1 (n:Int)).bind fun y=>K y.2)=K (D++b)/\zn lt 20 b/\SP lt T b:=by
 intro k
 induction k using Nat.strongRecOn with
 |ind k ih=>
  intro D T n hQ hk hn hb
  rcases Ty T.length 20 with h|h
  ·have hd:decide (((D.length+20:Nat):Int)<=(n:Int))=false:=by simp;omega
   obtain⟨W,f,I,G⟩:=IK O hc D T [] hQ ((D.length:Nat):Int) (n:Int) rfl oM oM
   refine⟨W, ?_,.last (by rw[<-G.1.length_eq];omega) I,G⟩
   rw[fd (a:= .inl (D++T,((D.length:Nat):Int),((D.length+20:Nat):Int)))]
   ·simp only[Tg] at f
    simp only[SQ,c3,f]
   ·unfold OT
    dsimp only
    rw[hd];rfl
  ·have hd:decide (((D.length+20:Nat):Int)<=(n:Int))=true:=by simp;omega
   have e:=Tl 20 T
   have M:(T.take 20).length=20:=by rw[Th];omega
   have l2:(T.drop 20).length=T.length - 20:=TQ
   generalize T.take 20=U at e M
   generalize T.drop 20=g at e l2
   subst e
   obtain⟨W,f,I,G⟩:=IK O hc D U g (fun x hx=>hQ x (TT _ hx)) ((D.length:Nat):Int) ((D.length+20:Nat):Int) rfl (by rw[M]) oM
   have d:W.length=20:=by rw[<-G.1.length_eq,M]
   obtain⟨b,j,t2,t3⟩:=ih (k - 20) oM (D++W) g n (fun x hx=>hQ x (List.mem_append_right _ hx)) oM (by rw[SS] at hn⊢;omega) hb
   refine⟨W++b, ?_,.cons d I t2,G.app t3⟩
   rw[iI (s':=(D++W++g,(((D++W).length:Nat):Int),(((D++W).length+20:Nat):Int)))]
   ·rw[j,S6]
   ·unfold OT
    dsimp only
    rw[hd,<-S6,f,bh _ oM oM,SS,d]
    rfl
theorem Kj {Q:α->Prop} {c:α->α->Option Int} {lt:α->α->Bool} (O:oP lt) (hc:IJ Q c lt) (S:137438953472<=2^fu) (bs:Nat) (e:0<bs):∀ (k:Nat) (D T:List α) (n:Nat),(∀ x∈T,Q x)->T.length<=k->n=D.length+T.length->n<=137438953472->bs<=137438953472->zn lt bs T->
  ∃ b,(bc (OU c fu (n:Int) (bs:Int)) (D++T,((D.length:Nat):Int),((D.length+2 * bs:Nat):Int))).bind (c3 (QO c fu (n:Int) (bs:Int)))=some (.inl (D++b,((2 * bs:Nat):Int)))/\zn lt (2 * bs) b/\SP lt T b:=by
 intro k
 induction k using Nat.strongRecOn with
 |ind k ih=>
  intro D T n hQ hk hn hb r8 hT
  have t:=OS O hc fu
  have w5:IntKind.i64.wrap ((bs:Int) * 2)=((2 * bs:Nat):Int):=by rw[bh _ oM oM];omega
  have w6:IntKind.i64.wrap (2 * (bs:Int))=((2 * bs:Nat):Int):=by rw[bh _ oM oM];omega
  have w7:IntKind.i64.wrap (((D.length:Nat):Int)+(bs:Int))=((D.length+bs:Nat):Int):=by rw[bh _ oM oM];omega
  rcases Ty T.length (2 * bs) with h|h
  ·have hd:decide (((D.length+2 * bs:Nat):Int)<=(n:Int))=false:=by simp only[Tk];omega
   rw[fd (a:= .inl (D++T,((D.length:Nat):Int),((D.length+2 * bs:Nat):Int)))]
   ·simp only[SQ,c3]
    unfold QO
    dsimp only
    rw[w5,w7]
    rcases Ty bs T.length with h2|h2
    ·have q:decide (((D.length+bs:Nat):Int)<(n:Int))=true:=by simp only[S5];omega
     obtain⟨U,L,rfl,M,p,b1⟩:=hT.split oM
     rw[SS] at h h2 hn
     obtain⟨W,g1,g2,g3⟩:=t D U L [] (by intro h0;rw[h0] at M;simp at M;omega) (by intro h0;rw[h0] at h2;simp at h2;omega) (fun x hx=>hQ x (TT _ hx)) (fun x hx=>hQ x (List.mem_append_right _ hx)) p (b1.one oM) oM oT
     refine⟨W, ?_,.last (by rw[<-g3.1.length_eq,SS];omega) g2,g3⟩
     rw[q,show n=D.length+U.length+L.length by omega,<-M]
     simp only[Tg] at g1
     rw[<-S6,g1]
     rfl
    ·have q:decide (((D.length+bs:Nat):Int)<(n:Int))=false:=by simp only[Tk];omega
     refine⟨T, ?_,.last oM (hT.one h2),SP.refl _ _⟩
     rw[q];rfl
   ·unfold OU
    dsimp only
    rw[hd];rfl
  ·have hd:decide (((D.length+2 * bs:Nat):Int)<=(n:Int))=true:=by simp only[S5];omega
   obtain⟨U,L,rfl,M,p,b1⟩:=hT.split oM
   rw[SS] at h hn hk
   obtain⟨V,L,rfl,l2,s2,b2⟩:=b1.split oM
   rw[SS] at h hn hk
   obtain⟨W,g1,g2,g3⟩:=t D U V L (by intro h0;rw[h0] at M;simp at M;omega) (by intro h0;rw[h0] at l2;simp at l2;omega) (fun x hx=>hQ x (by simp[hx])) (fun x hx=>hQ x (by simp[hx])) p s2 oM oM
   have d:W.length=2 * bs:=by rw[<-g3.1.length_eq,SS];omega
   obtain⟨b,j,t2,t3⟩:=ih (k - 2 * bs) oM (D++W) L n (fun x hx=>hQ x (by simp[hx])) oM (by rw[SS];omega) hb r8 b2
   refine⟨W++b, ?_,.cons d g2 t2, ?_⟩
   ·rw[iI (s':=(D++W++L,(((D++W).length:Nat):Int),(((D++W).length+2 * bs:Nat):Int)))]
    ·rw[j,S6]
    ·have w8:IntKind.i64.wrap (((D.length+2 * bs:Nat):Int)+((2 * bs:Nat):Int))=((D.length+2 * bs+2 * bs:Nat):Int):=by rw[bh _ oM oM];omega
     unfold OU
     dsimp only
     rw[hd,w6,w7,w8,SS,d]
     rw[M,show D.length+bs+V.length=D.length+2 * bs by omega] at g1
     rw[show D++(U++(V++L))=D++U++V++L by simp,g1]
     rfl
   ·rw[<-S6]
    exact g3.app t3
theorem Kk {Q:α->Prop} {c:α->α->Option Int} {lt:α->α->Bool} (O:oP lt) (hc:IJ Q c lt) (S:137438953472<=2^fu):∀ (k:Nat) (L:List α) (bs:Nat),(∀ x∈L,Q x)->L.length - bs<=k->0<bs->L.length<=137438953472->zn lt bs L->
  ∃ d s,bc (Kh c fu ((L.length:Nat):Int)) (L,(bs:Int))=some (.inl (d,s))/\mT lt d/\SP lt L d:=by
 intro k
 induction k using Nat.strongRecOn with
 |ind k ih=>
  intro L bs hQ hk h0 hb u
  rcases Ty bs L.length with h|h
  ·have hd:decide ((bs:Int)<((L.length:Nat):Int))=true:=by simp only[S5];omega
   have w6:IntKind.i64.wrap (2 * (bs:Int))=((2 * bs:Nat):Int):=by rw[bh _ oM oM];omega
   obtain⟨b,j,t2,t3⟩:=Kj O hc S bs h0 L.length [] L L.length hQ (SZ _) oS hb oM u
   have a:=t3.1.length_eq
   obtain⟨d,s,g1,g2,g3⟩:=ih (k - bs) oM b (2 * bs) (fun x hx=>hQ x (t3.1.mem_iff.2 hx)) oM oM oM t2
   refine⟨d,s, ?_,g2,t3.trans g3⟩
   rw[iI (s':=(b,((2 * bs:Nat):Int)))]
   ·rw[a];exact g1
   ·unfold Kh
    dsimp only
    rw[hd,w6]
    simp only[S3,S8,Tx] at j
    exact j
  ·have hd:decide ((bs:Int)<((L.length:Nat):Int))=false:=by simp only[Tk];omega
   refine⟨L,bs,fd ?_,u.one h,SP.refl _ _⟩
   unfold Kh
   dsimp only
   rw[hd];rfl
theorem OV {Q:α->Prop} {c:α->α->Option Int} {lt:α->α->Bool} (O:oP lt) (hc:IJ Q c lt) (S:137438953472<=2^fu) (L:List α) (hQ:∀ x∈L,Q x) (hb:L.length<=137438953472):
  ∃ W,RJ c fu L ((L.length:Nat):Int)=some ((),W)/\mT lt W/\SP lt L W:=by
 obtain⟨b,j,t2,t3⟩:=Ki O hc (fun M=>(bc (Kh c fu ((L.length:Nat):Int)) (M,20)).bind (c3 fun s=>some ((),s.1))) L.length [] L L.length hQ (SZ _) oS hb
 simp only[S3,S8,Tx] at j
 have a:=t3.1.length_eq
 obtain⟨d,s,g1,g2,g3⟩:=Kk O hc S b.length b 20 (fun x hx=>hQ x (t3.1.mem_iff.2 hx)) oM oM oM t2
 refine⟨d, ?_,g2,t3.trans g3⟩
 refine Eq.trans j ?_
 rw[<-a] at g1
 have e:bc (Kh c fu ((L.length:Nat):Int)) (b,20)=some (.inl (d,s)):=g1
 rw[e];rfl
end
end
theorem QP:137438953472<=2^FU:=by
 have h:2^37<=2^FU:=Nat.pow_le_pow_right oD (TW oD Qm)
 exact TW oD h
section
variable (f:FuncId) (c:List DV) (p:ah->ah->Option Int) (h:∀ a0 M r,p a0 M=some r->ac Tryz.prog f ([.agg (af a0),.agg (af M)]++c) (.int .i64 r))
theorem BW (L:List ah) (x1 x2 d:Int):cg L x1 x2 d f c p h=BT L x1 x2 d:=by
 unfold cg tE;dsimp only
 rfl
theorem Ct (L:List ah) (x1 x2 d:Int):ct L x1 x2 d f c p h=OO L x1 x2 d:=by
 unfold ct tF;dsimp only
 simp only[BW]
 rfl
theorem Cu (L:List ah) (x1 x2:Int):bQ L x1 x2 f c p h=Kb p L x1 x2:=by
 unfold bQ tD;dsimp only
 rfl
theorem Cv:∀ (fu:Nat) (L:List ah) (x1 x2 d:Int),a1 fu L x1 x2 d f c p h=Ke p fu L x1 x2 d:=by
 intro fu
 induction fu with
 |zero=>intro L x1 x2 d;exact gu ..
 |succ fu ih=>
  intro L x1 x2 d
  rw[gx];unfold tG;dsimp only;simp only[gv]
  simp only[Ct,ih]
  rfl
theorem Cw (L:List ah) (n:Int):cu L n f c p h=RJ p FU L n:=by
 unfold cu tH;dsimp only
 simp only[Cu,Cv]
 rfl
end
theorem Cy {f:FuncId} {c:List DV} {p:ah->ah->Option Int} (h:∀ a0 M r,p a0 M=some r->ac Tryz.prog f ([.agg (af a0),.agg (af M)]++c) (.int .i64 r)) {Q:ah->Prop} {lt:ah->ah->Bool} (O:oP lt) (hc:IJ Q p lt) (L:List ah) (hQ:∀ x∈L,Q x) (hb:L.length<=137438953472):
  ∃ W,ba L f c p h=some ((),W)/\mT lt W/\SP lt L W:=by
 obtain⟨W,g1,g2⟩:=OV O hc QP L hQ hb
 refine⟨W, ?_,g2⟩
 unfold ba tI;dsimp only
 rw[Cw,g1]
 rfl
noncomputable section
variable {a:RA} {i:Int} {lv n:Nat} {s:aa}
def CC (a:RA):RA:=match a.flevels[2]? with|none=>a|some x=>⟨a.flevels.set 2 ⟨x.fheaded,x.fref,x.fmany+1,x.frefs⟩,a.fnotes⟩
def cM (s:aa) (i:Int) (a:RA):RA:=
 if fN s.fTag=true then kM s (cK s.fTag - 1) i a else if 0<cK s.fTag then lp s (cK s.fTag - 1) i a else if a.flevels.length<3 then nu a 7 i else CC a
def gc:List aa->Nat->RA->RA
 |[],_,a=>a
 |s::l,i,a=>gc l (i+1) (cM s (i:Int) a)
def xd (l:List aa):List Nt:=(bk 0 (l.length:Int) (gc l 0 ⟨[],[]⟩)).fnotes
theorem CD (s:aa):∀ (l:List aa) (i:Nat) (a:RA),gc (l++[s]) i a=cM s ((i+l.length:Nat):Int) (gc l i a)
 |[],i,a=>by simp[gc]
 |x::l,i,a=>by
  show gc (l++[s]) (i+1) _=_
  rw[CD s l (i+1),show i+1+l.length=i+(x::l).length by simp;omega]
  rfl
theorem Nj {ref:List UInt8} {L:List RO} {N:List Nt} {m:Nat} (h1:N.length<=m) (h2:∀ x∈L,0<=x.fmany/\x.fmany<=(n:Int)+1/\x.frefs.length<=n):
  (qY ref i ⟨L,N⟩).fnotes.length<=m+1/\∀ x∈(qY ref i ⟨L,N⟩).flevels,0<=x.fmany/\x.fmany<=(n:Int)+2/\x.frefs.length<=n+1:=by
 rcases Uy L with rfl|⟨P,x,rfl⟩
 ·rw[se];exact⟨by simp only;omega,by simp⟩
 ·rw[Uz] at h2⊢
  rw[mw]
  refine⟨?_, ?_⟩
  ·simp only[SS]
   unfold DB
   split<;>simp<;>omega
  ·intro y hy
   rcases Te.1 hy with hy|hy
   ·have:=h2 y (TT _ hy);omega
   ·rw[Tj.1 hy]
    have:=h2 x oS
    unfold km
    refine⟨by simp only;omega,by simp only;omega, ?_⟩
    simp only
    split
    ·simp only[SS,ST,S3];omega
    ·omega
theorem KH (e:lv<=2) (h:yR n a):yR (n+1) (kM s lv i a):=by
 obtain⟨b1,b2,u⟩:=h
 have M:(bk lv i a).flevels.length<=lv:=by simp only[bk,Th];omega
 have S:(bk lv i a).fnotes.length<=10 * n+3:=by simp only[bk,SS,Tn];omega
 have m1:∀ x∈(bk lv i a).flevels,0<=x.fmany/\x.fmany<=(n:Int)+1/\x.frefs.length<=n:=fun x hx=>u x (Tv hx)
 have A:(gb lv i (bk lv i a)).flevels.length<=lv/\(gb lv i (bk lv i a)).fnotes.length<=10 * n+4/\∀ x∈(gb lv i (bk lv i a)).flevels,0<=x.fmany/\x.fmany<=(n:Int)+1/\x.frefs.length<=n:=by
  unfold gb
  split
  ·refine⟨by simp only[SS,Tn];omega,by simp only[SS,ST,S3];omega,fun x hx=> ?_⟩
   rcases Te.1 hx with hx|hx
   ·exact m1 x hx
   ·rw[List.eq_of_mem_replicate hx];simp[B5];omega
  ·exact⟨M,by omega,m1⟩
 unfold kM
 simp only
 generalize gb lv i (bk lv i a)=b at A
 have g1:(iV s i b).flevels=b.flevels/\(iV s i b).fnotes.length<=10 * n+5:=by
  unfold iV
  split
  ·exact⟨rfl,by omega⟩
  ·exact⟨rfl,by simp only[nu,SS,ST,S3];omega⟩
 have g2:=Nj (ref:=nv s.fElements) (i:=i) (n:=n) (L:=(iV s i b).flevels) (N:=(iV s i b).fnotes) g1.2 (by rw[g1.1];exact A.2.2)
 have g3:=E2 (nv s.fElements) i (iV s i b)
 have hl:=A.1
 rw[g1.1] at g3
 refine⟨?_, ?_, ?_⟩
 ·simp only[SS,ST,S3];omega
 ·exact TW g2.1 oM
 ·intro x hx
  rcases Te.1 hx with hx|hx
  ·have:=g2.2 x hx;omega
  ·rw[Tj.1 hx]
   refine⟨?_, ?_,by simp⟩<;>simp only<;>split<;>omega
theorem Nk (ts:List (List UInt8)) (lv:Nat) (i:Int) (x:RO):(KG ts lv i x).length<=2:=by
 have q:∀ (c:Prop) [Decidable c] (y:Nt),(if c then([]:List Nt) else[y]).length<=1:=fun c _ y=>by split<;>simp
 unfold KG
 split
 ·split
  ·split
   ·rw[SS]
    exact Nat.add_le_add (q _ _) (q _ _)
   ·simp
  ·simp
 ·simp
theorem KI (h:yR n a):yR (n+1) (lp s lv i a):=by
 obtain⟨b1,b2,u⟩:=h
 have b:∀ x∈a.flevels,0<=x.fmany/\x.fmany<=((n+1:Nat):Int)+1/\x.frefs.length<=n+1:=fun x hx=>by have:=u x hx;omega
 unfold lp
 split
 ·exact⟨b1,by simp only[nu,SS,ST,S3];omega,b⟩
 ·split
  ·exact⟨b1,by omega,b⟩
  ·refine⟨?_, ?_,fun x hx=>b x (Tv hx)⟩
   ·rw[Th];omega
   ·have:∀ t,(if s.fElements.all fh=true then KG (s.fElements.map firstT) lv i t else[⟨6,i⟩]).length<=2:=fun t=>by
     split
     ·exact Nk _ _ _ _
     ·simp
    simp only[bk,SS,Tn]
    have:=this ‹RO›
    omega
theorem KJ (h:yR n a):yR (n+1) (cM s i a):=by
 unfold cM
 split
 ·refine KH ?_ h
  unfold cK;split<;>(try split)<;>(try split)<;>omega
 ·split
  ·exact KI h
  ·obtain⟨b1,b2,u⟩:=h
   have b:∀ x∈a.flevels,0<=x.fmany/\x.fmany<=((n+1:Nat):Int)+1/\x.frefs.length<=n+1:=fun x hx=>by have:=u x hx;omega
   split
   ·exact⟨b1,by simp only[nu,SS,ST,S3];omega,b⟩
   ·unfold CC
    split
    ·exact⟨b1,by omega,b⟩
    ·rename_i x hx
     refine⟨by rw[Vd];exact b1,by simp only;omega,fun y hy=> ?_⟩
     rcases List.mem_or_eq_of_mem_set hy with hy|rfl
     ·exact b y hy
     ·have:=u x (SW hx)
      simp only;omega
theorem HR:∀ (l:List aa) (i:Nat) (a:RA),yR i a->yR (i+l.length) (gc l i a)
 |[],i,a,h=>h
 |s::l,i,a,h=>by
  have:=HR l (i+1) _ (KJ (s:=s) (i:=(i:Int)) h)
  rw[show i+(s::l).length=i+1+l.length by simp;omega]
  exact this
theorem SJ:yR 0 ⟨[],[]⟩:=⟨by simp,by simp,by simp⟩
def Py (l:List aa):Prop:=l.length<=2000/\∀ s∈l,zM s.fElements
theorem CE {l:List aa} (h:et l=0):Py l:=by
 unfold et at h
 split at h
 ·cases h
 ·refine⟨by omega,fun s hs=> ?_⟩
  have:=fc h s hs
  unfold ut at this
  split at this
  ·cases this
  ·split at this
   ·cases this
   ·exact⟨by omega,fun e he=>fc this e he⟩
def I0 (a b:Nt):Bool:=decide (a.fSegment<b.fSegment)||(decide (a.fSegment=b.fSegment)&&decide (a.fKind<b.fKind))
theorem HS (a b:Nt):I0 a b=true↔a.fSegment<b.fSegment\/(a.fSegment=b.fSegment/\a.fKind<b.fKind):=by unfold I0;simp
theorem O1 (a b:Nt):I0 a b=false↔¬ (a.fSegment<b.fSegment\/(a.fSegment=b.fSegment/\a.fKind<b.fKind)):=by rw[<-HS];simp
theorem Q2:oP I0 where
 asym:=fun a b h=>by rw[HS] at h;rw[O1];omega
 tr:=fun a b c h g=>by rw[O1] at *;omega
end
variable {l:List aa}
def vK (tag:List UInt8) (n:Nat):Nat:=if fN tag=true then cK tag else if 0<cK tag then(if n<cK tag then n else cK tag - 1) else n
def Dx (tag:List UInt8) (n:Nat):Nat:=if fN tag=true then(n - (cK tag - 1))+(if n<cK tag - 1 then 1 else 0) else if 0<cK tag then(if n<cK tag then 1 else n - cK tag) else if n<3 then 1 else 0
theorem mu {tag:List UInt8} (h:fN tag=true):0<cK tag:=by
 unfold fN at h
 simp only[TE,S5] at h
 rcases h with(rfl|rfl)|rfl<;>decide
theorem HN (tag:List UInt8):cK tag<=3:=by
 unfold cK;split<;>(try split)<;>(try split)<;>omega
theorem Kt (s:aa) (lv:Nat) (i:Int) (a:RA):(kM s lv i a).flevels.length=lv+1/\a.fnotes.length+(a.flevels.length - lv)+(if a.flevels.length<lv then 1 else 0)<=(kM s lv i a).fnotes.length:=by
 have h1:(gb lv i (bk lv i a)).flevels.length=lv/\(gb lv i (bk lv i a)).fnotes.length=a.fnotes.length+(a.flevels.length - lv)+(if a.flevels.length<lv then 1 else 0):=by
  unfold gb
  simp only[bk,Th]
  by_cases h:a.flevels.length<lv
  ·have Z:min lv a.flevels.length=a.flevels.length:=by omega
   rw[U4 (by rw[Z];exact h),U4 h]
   constructor
   ·show(a.flevels.take lv++List.replicate (lv - min lv a.flevels.length) B5).length=lv
    rw[SS,Tn,Th,Z];omega
   ·show(a.fnotes++List.replicate (a.flevels.length - lv) _++[_]).length=_
    rw[SS,SS,Tn];rfl
  ·have Z:min lv a.flevels.length=lv:=by omega
   rw[if_neg (by rw[Z];omega),if_neg h]
   constructor
   ·show(a.flevels.take lv).length=lv
    rw[Th,Z]
   ·show(a.fnotes++List.replicate (a.flevels.length - lv) _).length=_
    rw[SS,Tn];rfl
 unfold kM
 simp only
 generalize gb lv i (bk lv i a)=b at h1
 have h2:(iV s i b).flevels=b.flevels/\b.fnotes.length<=(iV s i b).fnotes.length:=by
  unfold iV
  split
  ·exact⟨rfl,SZ _⟩
  ·exact⟨rfl,by simp[nu]⟩
 generalize iV s i b=c at h2
 have E:c.fnotes.length<=(qY (nv s.fElements) i c).fnotes.length:=by
  unfold qY
  split
  ·exact SZ _
  ·simp
 refine⟨?_,by omega⟩
 rw[SS,E2,h2.1,h1.1]
 rfl
theorem Ku (s:aa) (lv:Nat) (i:Int) (a:RA):(lp s lv i a).flevels.length=(if a.flevels.length<=lv then a.flevels.length else lv)/\a.fnotes.length+(if a.flevels.length<=lv then 1 else a.flevels.length - (lv+1))<=(lp s lv i a).fnotes.length:=by
 unfold lp
 by_cases h:a.flevels.length<=lv
 ·rw[U4 h,U4 h,U4 h]
  simp[nu]
 ·rw[if_neg h,if_neg h,if_neg h]
  obtain⟨x,hx⟩:=eF (show lv<a.flevels.length by omega)
  rw[hx]
  simp only[bk,Th,SS,Tn]
  omega
theorem n2 (s:aa) (i:Int) (a:RA):(cM s i a).flevels.length=vK s.fTag a.flevels.length/\a.fnotes.length+Dx s.fTag a.flevels.length<=(cM s i a).fnotes.length:=by
 unfold cM vK Dx
 by_cases h:fN s.fTag=true
 ·have:=mu h
  rw[U4 h,U4 h,U4 h]
  obtain⟨h1,h2⟩:=Kt s (cK s.fTag - 1) i a
  exact⟨by omega,by omega⟩
 ·rw[if_neg h,if_neg h,if_neg h]
  by_cases g:0<cK s.fTag
  ·rw[U4 g,U4 g,U4 g]
   obtain⟨h1,h2⟩:=Ku s (cK s.fTag - 1) i a
   by_cases k:a.flevels.length<cK s.fTag
   ·rw[U4 oM] at h1 h2
    rw[U4 k,U4 k]
    exact⟨h1,h2⟩
   ·rw[if_neg oM] at h1 h2
    rw[if_neg k,if_neg k]
    exact⟨h1,by omega⟩
  ·rw[if_neg g,if_neg g,if_neg g]
   by_cases k:a.flevels.length<3
   ·rw[U4 k,U4 k]
    simp[nu]
   ·rw[if_neg k,if_neg k]
    unfold CC
    split<;>simp
theorem EV (tag:List UInt8) (n:Nat):Dx tag n=0↔(fN tag=true/\n=cK tag - 1)\/(fN tag=false/\0<cK tag/\n=cK tag)\/(fN tag=false/\cK tag=0/\3<=n):=by
 unfold Dx
 cases h:fN tag with
 |true=>
  simp only[TB]
  by_cases g:n<cK tag - 1
  ·rw[U4 g];simp;omega
  ·rw[if_neg g];simp;omega
 |false=>
  simp only[Tb,Tq]
  by_cases g:0<cK tag
  ·rw[U4 g]
   by_cases k:n<cK tag
   ·rw[U4 k];simp;omega
   ·rw[if_neg k];simp;omega
  ·rw[if_neg g]
   by_cases k:n<3
   ·rw[U4 k];simp;omega
   ·rw[if_neg k];simp;omega
theorem sd:∀ (l:List aa) (i:Nat) (a:RA),a.fnotes.length<=(gc l i a).fnotes.length
 |[],_,_=>SZ _
 |s::l,i,a=>TW (by have:=(n2 s (i:Int) a).2;omega) (sd l (i+1) _)
theorem nE:∀ (l m:List aa) (i:Nat) (a:RA),gc (l++m) i a=gc m (i+l.length) (gc l i a)
 |[],m,i,a=>rfl
 |s::l,m,i,a=>by
  show gc (l++m) (i+1) _=_
  rw[nE l m,show i+1+l.length=i+(s::l).length by simp;omega]
  rfl
theorem Nb (h:0<(gc l 0 ⟨[],[]⟩).fnotes.length):xd l≠[]:=by
 intro h0
 have:(xd l).length=0:=by rw[h0];rfl
 simp only[xd,bk,SS] at this
 omega
theorem SI (h:xd l=[]) {g:Nat} {s:aa} (hs:l[g]?=some s) (hT:0<cK s.fTag):xd (l.take g++l.drop (g+1))≠[]:=by
 have hg:=cB hs
 have e:l=l.take g++s::l.drop (g+1):=by
  have:=T_ (l:=l) (i:=g) hg
  rw[(SY.1 hs).2] at this
  rw[<-this,Tl]
 have hl:(xd l).length=0:=by rw[h];rfl
 simp only[xd,bk,SS,Tn] at hl
 rw[e,nE] at hl
 have I:(l.take g).length=g:=by rw[Th];omega
 have hu:∀ r,gc (l.take g++r) 0 ⟨[],[]⟩=gc r g (gc (l.take g) 0 ⟨[],[]⟩):=fun r=>by rw[nE,I,Tx]
 rw[Tx,I] at hl
 generalize gc (l.take g) 0 ⟨[],[]⟩=a at hl hu
 have E:=HN s.fTag
 obtain⟨k1,k2⟩:=n2 s (g:Int) a
 cases D:l.drop (g+1) with
 |nil=>
  rw[D] at hl
  have f:(cM s (g:Int) a).fnotes.length+((cM s (g:Int) a).flevels.length - 0)=0:=hl
  intro h0
  have:(xd (l.take g++[])).length=0:=by rw[h0];rfl
  simp only[xd,bk,SS,Tn] at this
  rw[hu] at this
  have c:a.fnotes.length+(a.flevels.length - 0)=0:=this
  unfold vK at k1
  unfold Dx at k2
  by_cases q:fN s.fTag=true
  ·rw[U4 q] at k1;omega
  ·rw[if_neg q,U4 hT] at k1 k2
   by_cases W:a.flevels.length<cK s.fTag
   ·rw[U4 W] at k2;omega
   ·omega
 |cons s' r=>
  rw[D] at hl
  refine Nb ?_
  rw[hu]
  refine TJ ?_ (sd r (g+1) (cM s' (g:Int) a))
  have L:(gc r (g+1+1) (cM s' ((g+1:Nat):Int) (cM s (g:Int) a))).fnotes.length=0:=by
   have:(gc (s::s'::r) g a).fnotes.length=0:=by omega
   exact this
  have d:=sd r (g+1+1) (cM s' ((g+1:Nat):Int) (cM s (g:Int) a))
  obtain⟨m1,m2⟩:=n2 s' ((g+1:Nat):Int) (cM s (g:Int) a)
  obtain⟨S,V⟩:=n2 s' (g:Int) a
  have a0:Dx s.fTag a.flevels.length=0:=by omega
  have M:Dx s'.fTag (vK s.fTag a.flevels.length)=0:=by rw[<-k1];omega
  have a2:Dx s'.fTag a.flevels.length≠0:=by
   have h5:fN s'.fTag=true->0<cK s'.fTag:=mu
   intro h6
   rw[EV] at a0 M h6
   rcases a0 with⟨q,q1⟩|⟨q,q1,W⟩|⟨q,q1,W⟩
   ·have:vK s.fTag a.flevels.length=cK s.fTag:=by unfold vK;rw[U4 q]
    rw[this] at M
    rcases M with⟨u,u1⟩|⟨u,u1,u2⟩|⟨u,u1,u2⟩<;>rcases h6 with⟨v,b⟩|⟨v,b,v2⟩|⟨v,b,v2⟩<;>first|omega|(rw[u] at v;cases v)|(have:=h5 u;omega)
   ·have:vK s.fTag a.flevels.length=cK s.fTag - 1:=by unfold vK;rw[if_neg (by rw[q];decide),U4 hT,if_neg oM]
    rw[this] at M
    rcases M with⟨u,u1⟩|⟨u,u1,u2⟩|⟨u,u1,u2⟩<;>rcases h6 with⟨v,b⟩|⟨v,b,v2⟩|⟨v,b,v2⟩<;>first|omega|(rw[u] at v;cases v)|(have:=h5 u;omega)
   ·omega
  omega
end Go.Proofs.YtgmnipfafmphaaaGreatDoor
