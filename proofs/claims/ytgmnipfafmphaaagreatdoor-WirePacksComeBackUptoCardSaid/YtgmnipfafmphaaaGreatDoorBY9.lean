/-
  Texts of mine, one behind the other (SYAT2, SYAR1, SYAR2, SYAT3, SYAR3, SYAR4, SYRI, SYAU7, SYAU8, SYAU9, SYAU10, SYAU11, SYRD2, SYCB2, SYRD3, SYRD4, SYRD5, SYCB3).
-/
import Derived.Test.YtgmnipfafmphaaaGreatDoorBY3
import Derived.Test.YtgmnipfafmphaaaGreatDoorBY5
import Derived.Test.YtgmnipfafmphaaaGreatDoorBY6
import Derived.Test.YtgmnipfafmphaaaGreatDoorBY7
import Derived.Test.YtgmnipfafmphaaaGreatDoorBY8
namespace Go.Proofs.YtgmnipfafmphaaaGreatDoor
open Go.RowKit
set_option linter.unusedSimpArgs false
set_option linter.unusedVariables false
variable {i:Int} {lv:Nat} {ref:List UInt8} {s:aa} {x:RO}
def jS (tag:List UInt8) (ts:List (List UInt8)):aa:=⟨tag,ts.map fun t=>⟨[[t]]⟩⟩
theorem qU (tag:List UInt8) (ts:List (List UInt8)):(jS tag ts).fElements.all fh=true:=by
 unfold jS
 simp only[List.all_map,Ti,Function.comp]
 intro t _;rfl
theorem qV (tag:List UInt8) (ts:List (List UInt8)):(jS tag ts).fElements.map firstT=ts:=by
 unfold jS
 rw[Us]
 conv=>rhs;rw[<-Vh ts]
 exact TR fun t _=>rfl
theorem iJ (tag a:List UInt8) (ts:List (List UInt8)):n3 (jS tag (a::ts)).fElements=a/\nv (jS tag (a::ts)).fElements=a:=⟨rfl,rfl⟩
theorem zp {a:RA} (C:EP s=true) (hl:a.flevels.length=lv):kM s lv i a=⟨(qY (nv s.fElements) i a).flevels++[⟨true,n3 s.fElements,if lv=2 then 1 else 0,[]⟩],(qY (nv s.fElements) i a).fnotes⟩:=by
 have h1:bk lv i a=a:=by
  unfold bk
  rw[Tt oM,show a.flevels.length - lv=0 by omega]
  simp
 have h2:gb lv i a=a:=by unfold gb;rw[if_neg oM]
 unfold kM iV
 simp only[h1,h2,C,TB]
theorem zq {L:List RO} {N:List Nt} (hl:L.length=lv) {p q:List UInt8} (hs:s.fElements.all fh=true) (ht:s.fElements.map firstT=[p,q]) (Y:fB p=true) (hq:dU q=true) (hh:x.fheaded=true) (Z:kj p=x.fmany+(if lv=2 then 1 else 0)) (D:q=x.fref):
  lp s lv i ⟨L++[x],N⟩=⟨L,N⟩:=by
 unfold lp
 rw[if_neg oT]
 have hx:(L++[x])[lv]?=some x:=by rw[<-hl];simp
 simp only[hx,hs,TB,ht]
 unfold KG
 simp only
 rw[U4 ⟨Y,hq⟩,U4 hh,U4 Z,U4 D]
 unfold bk
 rw[show(L++[x]).length - (lv+1)=0 by simp;omega,<-hl]
 simp
theorem Dy (s:aa) (i:Nat) (a:RA):gc [s] i a=cM s (i:Int) a:=rfl
theorem EW (h:ref∉x.frefs):DB ref x i=[]:=by
 unfold DB
 rw[if_neg (fun g=>h g.2)]
theorem zL:∀ (segs:List aa),(∀ s∈segs,cK s.fTag=0)->∀ (i:Nat) (I G M:RO) (N:List Nt),gc segs i ⟨[I,G,M],N⟩=⟨[I,G,⟨M.fheaded,M.fref,M.fmany+(segs.length:Int),M.frefs⟩],N⟩
 |[],_,i,I,G,M,N=>by simp[gc]
 |s::segs,h,i,I,G,M,N=>by
  have h0:=h s oS
  have hh:fN s.fTag=false:=by
   cases e:fN s.fTag with
   |false=>rfl
   |true=>have:=mu e;omega
  have:cM s (i:Int) ⟨[I,G,M],N⟩=⟨[I,G,⟨M.fheaded,M.fref,M.fmany+1,M.frefs⟩],N⟩:=by
   unfold cM
   rw[if_neg (by rw[hh];decide),if_neg oM,if_neg oS]
   rfl
  show gc segs (i+1) (cM s (i:Int) _)=_
  rw[this,zL segs (fun s hs=>h s (To _ hs))]
  have:M.fmany+1+(segs.length:Int)=M.fmany+((s::segs).length:Int):=by simp only[ST];omega
  simp only[this]
theorem Nc {kind ver:List UInt8} {segs:List aa} (D:dU ref=true) (hk:cH kind=true) (hv:cH ver=true) (he:∀ s∈segs,cK s.fTag=0) (hn:segs.length<=2000) (I G:RO) (N:List Nt) (hG:ref∉G.frefs) (i:Nat):
  gc (jS kl [ref,kind,ver]::(segs++[jS xg [Lib.itoa ((segs.length:Int)+2),ref]])) i ⟨[I,G],N⟩=⟨[I,km ref G],N⟩:=by
 have hd:EP (jS kl [ref,kind,ver])=true:=by
  unfold EP
  rw[qU,qV]
  show(true&&(if kl=lm then _ else if kl=kl then IY [ref,kind,ver] else _))=true
  rw[if_neg oD,U4 rfl]
  simp[IY,D,hk,hv]
 have h1:cM (jS kl [ref,kind,ver]) (i:Int) ⟨[I,G],N⟩=⟨[I,km ref G,⟨true,ref,1,[]⟩],N⟩:=by
  unfold cM
  rw[U4 (by rfl),show cK (jS kl [ref,kind,ver]).fTag - 1=2 from rfl,zp (lv:=2) (a:=⟨[I,G],N⟩) hd rfl]
  rw[(iJ kl ref [kind,ver]).1,(iJ kl ref [kind,ver]).2,show([I,G]:List RO)=[I]++[G] from rfl,mw,EW hG]
  simp
 obtain⟨k1,k2,_⟩:=n1 (t:=(segs.length:Int)+2) oM oM
 show gc (segs++[_]) (i+1) (cM _ (i:Int) _)=_
 rw[h1,nE,zL segs he]
 rw[Dy]
 unfold cM
 rw[if_neg (by show¬ fN xg=true;decide),U4 (by show 0<cK xg;decide),show cK (jS xg [Lib.itoa ((segs.length:Int)+2),ref]).fTag - 1=2 from rfl]
 have:=zq (s:=jS xg [Lib.itoa ((segs.length:Int)+2),ref]) (lv:=2) (i:=((i+1+segs.length:Nat):Int)) (L:=[I,km ref G]) (x:=⟨true,ref,1+(segs.length:Int),[]⟩) (N:=N) rfl (qU _ _) (qV _ _) k1 D rfl (by rw[k2];simp only[TB];omega) rfl
 exact this
structure MT where
 ref:List UInt8
 kind:List UInt8
 ver:List UInt8
 segs:List aa
structure SB (m:MT):Prop where
 ref:dU m.ref=true
 kind:cH m.kind=true
 ver:cH m.ver=true
 env:∀ s∈m.segs,cK s.fTag=0
 len:m.segs.length<=2000
def rF (m:MT):List aa:=jS kl [m.ref,m.kind,m.ver]::(m.segs++[jS xg [Lib.itoa ((m.segs.length:Int)+2),m.ref]])
theorem Kv:∀ (l:List MT),(∀ m∈l,SB m)->∀ (i:Nat) (I G:RO) (N:List Nt),(∀ m∈l,m.ref∉G.frefs)->(l.map (·.ref)).Nodup->
  ∃ rs,gc (l.flatMap rF) i ⟨[I,G],N⟩=⟨[I,⟨G.fheaded,G.fref,G.fmany+(l.length:Int),rs⟩],N⟩
 |[],_,i,I,G,N,_,_=>⟨G.frefs,by simp[gc]⟩
 |m::l,h,i,I,G,N,hG,hd=>by
  obtain⟨M,a2,a3,a4,a5⟩:=h m oS
  have h1:=Nc M a2 a3 a4 a5 I G N (hG m oS) i
  simp only[Tc,UQ] at hd
  obtain⟨rs,h2⟩:=Kv l (fun m Z=>h m (To _ Z)) (i+(rF m).length) I (km m.ref G) N (fun k hk=>by
   unfold km
   rw[U4 M]
   simp only[Te,Tj,not_or]
   exact⟨hG k (To _ hk),fun e=>hd.1 (by rw[<-e];exact UF hk)⟩) hd.2
  refine⟨rs, ?_⟩
  rw[Tu,nE]
  have u6:gc (rF m) i ⟨[I,G],N⟩=⟨[I,km m.ref G],N⟩:=h1
  rw[u6,h2]
  have:G.fmany+1+(l.length:Int)=G.fmany+((m::l).length:Int):=by simp only[ST];omega
  simp only[km,this]
structure GT where
 ref:List UInt8
 kind:List UInt8
 msgs:List MT
structure RZ (g:GT):Prop where
 ref:dU g.ref=true
 kind:cH g.kind=true
 msg:∀ m∈g.msgs,SB m
 nod:(g.msgs.map (·.ref)).Nodup
 len:g.msgs.length<=2000
def pj (g:GT):List aa:=jS lm [g.ref,g.kind]::(g.msgs.flatMap rF++[jS yQ [Lib.itoa (g.msgs.length:Int),g.ref]])
theorem Nd {g:GT} (h:RZ g) (I:RO) (N:List Nt) (hI:g.ref∉I.frefs) (i:Nat):gc (pj g) i ⟨[I],N⟩=⟨[km g.ref I],N⟩:=by
 have hd:EP (jS lm [g.ref,g.kind])=true:=by
  unfold EP
  rw[qU,qV]
  show(true&&(if lm=lm then IX [g.ref,g.kind] else _))=true
  rw[U4 rfl]
  simp[IX,h.ref,h.kind]
 have h1:cM (jS lm [g.ref,g.kind]) (i:Int) ⟨[I],N⟩=⟨[km g.ref I,⟨true,g.ref,0,[]⟩],N⟩:=by
  unfold cM
  rw[U4 (by rfl),show cK (jS lm [g.ref,g.kind]).fTag - 1=1 from rfl,zp (lv:=1) (a:=⟨[I],N⟩) hd rfl]
  rw[(iJ lm g.ref [g.kind]).1,(iJ lm g.ref [g.kind]).2,show([I]:List RO)=[]++[I] from rfl,mw,EW hI]
  simp
 obtain⟨k1,k2,_⟩:=n1 (t:=(g.msgs.length:Int)) oM (by have:=h.len;omega)
 obtain⟨rs,h2⟩:=Kv g.msgs h.msg (i+1) (km g.ref I) ⟨true,g.ref,0,[]⟩ N (fun m _=>by simp) h.nod
 show gc (g.msgs.flatMap rF++[_]) (i+1) (cM _ (i:Int) _)=_
 rw[h1,nE,h2]
 rw[Dy]
 unfold cM
 rw[if_neg (by show¬ fN yQ=true;decide),U4 (by show 0<cK yQ;decide),show cK (jS yQ [Lib.itoa (g.msgs.length:Int),g.ref]).fTag - 1=1 from rfl]
 exact zq (s:=jS yQ [Lib.itoa (g.msgs.length:Int),g.ref]) (lv:=1) (L:=[km g.ref I]) (x:=⟨true,g.ref,0+(g.msgs.length:Int),rs⟩) (N:=N) rfl (qU _ _) (qV _ _) k1 h.ref rfl (by rw[k2];simp) rfl
theorem Kw:∀ (l:List GT),(∀ g∈l,RZ g)->∀ (i:Nat) (I:RO) (N:List Nt),(∀ g∈l,g.ref∉I.frefs)->(l.map (·.ref)).Nodup->
  ∃ rs,gc (l.flatMap pj) i ⟨[I],N⟩=⟨[⟨I.fheaded,I.fref,I.fmany+(l.length:Int),rs⟩],N⟩
 |[],_,i,I,N,_,_=>⟨I.frefs,by simp[gc]⟩
 |g::l,h,i,I,N,hI,hd=>by
  have h1:=Nd (h g oS) I N (hI g oS) i
  simp only[Tc,UQ] at hd
  obtain⟨rs,h2⟩:=Kw l (fun g hg=>h g (To _ hg)) (i+(pj g).length) (km g.ref I) N (fun k hk=>by
   unfold km
   rw[U4 (h g oS).ref]
   simp only[Te,Tj,not_or]
   exact⟨hI k (To _ hk),fun e=>hd.1 (by rw[<-e];exact UF hk)⟩) hd.2
  refine⟨rs, ?_⟩
  rw[Tu,nE,h1,h2]
  have:I.fmany+1+(l.length:Int)=I.fmany+((g::l).length:Int):=by simp only[ST];omega
  simp only[km,this]
theorem Kx {snd rcv b:List UInt8} {day sec:Int} {gs:List GT} (D:dU ref=true) (h1:cH snd=true) (h2:cH rcv=true) (E:1<=day/\day<=3652059) (h4:0<=sec/\sec<=86399) (h5:b=[]\/b=[49]) (hg:∀ g∈gs,RZ g) (hd:(gs.map (·.ref)).Nodup) (hl:gs.length<=2000):
  xd (jS fy [ref,snd,rcv,Lib.itoa day,Lib.itoa sec,b]::(gs.flatMap pj++[jS uh [Lib.itoa (gs.length:Int),ref]]))=[]:=by
 obtain⟨H,d2,_⟩:=n1 (t:=day) oM oM
 obtain⟨p,s2,_⟩:=n1 (t:=sec) oM oM
 obtain⟨k1,k2,_⟩:=n1 (t:=(gs.length:Int)) oM oM
 have c:EP (jS fy [ref,snd,rcv,Lib.itoa day,Lib.itoa sec,b])=true:=by
  unfold EP
  rw[qU,qV]
  show(true&&(if fy=lm then _ else if fy=kl then _ else IZ [ref,snd,rcv,Lib.itoa day,Lib.itoa sec,b]))=true
  rw[if_neg oD,if_neg oD]
  simp only[IZ,D,h1,h2,CA,CB,H,d2,p,s2,T1]
  rcases h5 with rfl|rfl<;>simp<;>omega
 have e1:cM (jS fy [ref,snd,rcv,Lib.itoa day,Lib.itoa sec,b]) ((0:Nat):Int) ⟨[],[]⟩=⟨[⟨true,ref,0,[]⟩],[]⟩:=by
  unfold cM
  rw[U4 (by rfl),show cK (jS fy [ref,snd,rcv,Lib.itoa day,Lib.itoa sec,b]).fTag - 1=0 from rfl,zp (lv:=0) (a:=⟨[],[]⟩) c rfl,se]
  rfl
 obtain⟨rs,e2⟩:=Kw gs hg 1 ⟨true,ref,0,[]⟩ [] (fun g _=>by simp) hd
 unfold xd
 have:gc (jS fy [ref,snd,rcv,Lib.itoa day,Lib.itoa sec,b]::(gs.flatMap pj++[jS uh [Lib.itoa (gs.length:Int),ref]])) 0 ⟨[],[]⟩=⟨[],[]⟩:=by
  show gc (gs.flatMap pj++[_]) 1 (cM _ ((0:Nat):Int) _)=_
  rw[e1,nE,e2]
  rw[Dy]
  unfold cM
  rw[if_neg (by show¬ fN uh=true;decide),U4 (by show 0<cK uh;decide),show cK (jS uh [Lib.itoa (gs.length:Int),ref]).fTag - 1=0 from rfl]
  exact zq (s:=jS uh [Lib.itoa (gs.length:Int),ref]) (lv:=0) (L:=[]) (x:=⟨true,ref,0+(gs.length:Int),rs⟩) (N:=[]) rfl (qU _ _) (qV _ _) k1 D rfl (by rw[k2];simp) rfl
 rw[this]
 rfl
variable {a:RA} {i:Int} {lv:Nat} {s:aa}
theorem IP {e:aj} (h:fh e=true):e=⟨[[firstT e]]⟩:=by
 obtain⟨r⟩:=e
 unfold fh at h
 unfold firstT
 match r,h with
 |[[t]],_=>rfl
theorem HL (h:s.fElements.all fh=true):s=jS s.fTag (s.fElements.map firstT):=by
 obtain⟨tag,es⟩:=s
 unfold jS
 simp only at h⊢
 congr 1
 rw[Us]
 conv=>lhs;rw[<-Vh es]
 exact TR fun e he=>IP (Ti.1 h e he)
theorem mt (h:(cM s i a).fnotes.length<=a.fnotes.length):Dx s.fTag a.flevels.length=0:=by
 have:=(n2 s i a).2
 omega
theorem Gx (h:(kM s lv i a).fnotes.length<=a.fnotes.length):EP s=true:=by
 cases e:EP s with
 |true=>rfl
 |false=>
  exfalso
  unfold kM at h
  simp only at h
  have h1:a.fnotes.length<=(gb lv i (bk lv i a)).fnotes.length:=by
   unfold gb
   split
   ·simp only[bk,SS];omega
   ·simp only[bk,SS];omega
  have h2:(iV s i (gb lv i (bk lv i a))).fnotes.length=(gb lv i (bk lv i a)).fnotes.length+1:=by
   unfold iV
   rw[if_neg (by rw[e];decide)]
   simp[nu]
  have E:(iV s i (gb lv i (bk lv i a))).fnotes.length<=(qY (nv s.fElements) i (iV s i (gb lv i (bk lv i a)))).fnotes.length:=by
   unfold qY
   split
   ·exact SZ _
   ·simp
  omega
theorem Gy {L:List RO} {x:RO} {N:List Nt} (hl:L.length=lv) (hh:x.fheaded=true) (h:(lp s lv i ⟨L++[x],N⟩).fnotes.length<=N.length):
  ∃ p q,s.fElements.all fh=true/\s.fElements.map firstT=[p,q]/\fB p=true/\dU q=true/\kj p=x.fmany+(if lv=2 then 1 else 0)/\q=x.fref:=by
 have hx:(L++[x])[lv]?=some x:=by rw[<-hl];simp
 unfold lp at h
 rw[if_neg oT] at h
 simp only[hx,bk,SS] at h
 have h0:(if s.fElements.all fh=true then KG (s.fElements.map firstT) lv i x else[⟨6,i⟩]).length=0:=by omega
 by_cases ha:s.fElements.all fh=true
 ·rw[U4 ha] at h0
  unfold KG at h0
  split at h0
  ·rename_i p q he
   split at h0
   ·rename_i h1
    rw[SS] at h0
    refine⟨p,q,ha,he,h1.1,h1.2, ?_, ?_⟩
    ·refine Decidable.byContradiction fun g=> ?_
     rw[if_neg g] at h0
     simp at h0
    ·refine Decidable.byContradiction fun g=> ?_
     rw[if_neg g] at h0
     simp at h0
   ·simp at h0
  ·simp at h0
 ·rw[if_neg ha] at h0
  simp at h0
theorem uR (hl:a.flevels.length=lv) (h:(kM s lv i a).fnotes.length<=a.fnotes.length):
  EP s=true/\kM s lv i a=⟨(qY (nv s.fElements) i a).flevels++[⟨true,n3 s.fElements,if lv=2 then 1 else 0,[]⟩],(qY (nv s.fElements) i a).fnotes⟩/\(qY (nv s.fElements) i a).fnotes.length<=a.fnotes.length:=by
 have C:=Gx h
 have hq:=zp (i:=i) C hl
 refine⟨C,hq, ?_⟩
 rw[hq] at h
 exact h
def ip (i:Nat) (a:RA) (l:List aa):Prop:=(gc l i a).fnotes.length<=a.fnotes.length/\(gc l i a).flevels=[]
theorem ip.step {i:Nat} {l:List aa} (h:ip i a (s::l)):(cM s (i:Int) a).fnotes.length<=a.fnotes.length/\ip (i+1) (cM s (i:Int) a) l:=by
 have h1:gc (s::l) i a=gc l (i+1) (cM s (i:Int) a):=rfl
 obtain⟨g1,g2⟩:=h
 rw[h1] at g1 g2
 have m:=sd l (i+1) (cM s (i:Int) a)
 have k:=(n2 s (i:Int) a).2
 exact⟨by omega,by omega,g2⟩
theorem zI:∀ (l:List aa) (i:Nat) (a:RA),a.flevels.length=3->ip i a l->∃ segs s z,l=segs++s::z/\(∀ x∈segs,cK x.fTag=0)/\cK s.fTag=3/\fN s.fTag=false
 |[],i,a,E,h=>by
  have:a.flevels=[]:=h.2
  rw[this] at E;simp at E
 |s::l,i,a,E,h=>by
  obtain⟨h1,h2⟩:=h.step
  have h0:=mt h1
  rw[EV,E] at h0
  have s0:=HN s.fTag
  rcases h0 with⟨q,q1⟩|⟨q,q1,W⟩|⟨q,q1,W⟩
  ·omega
  ·exact⟨[],s,l,rfl,by simp,W.symm,q⟩
  ·have hn:=(n2 s (i:Int) a).1
   rw[E] at hn
   unfold vK at hn
   rw[if_neg (by rw[q];decide),if_neg oM] at hn
   obtain⟨segs,s',z,e,g1,g2,g3⟩:=zI l (i+1) _ hn h2
   refine⟨s::segs,s',z,by rw[e];rfl, ?_,g2,g3⟩
   intro x hx
   rcases Tf.1 hx with rfl|hx
   ·exact q1
   ·exact g1 x hx
variable {I:RO} {N:List Nt} {a:RA} {i:Nat} {l:List aa} {n:Nat} {s:aa} {t:List UInt8}
theorem Kq (hn:cK t=n+1):t=DC n\/t=qX n:=by
 unfold cK at hn
 unfold DC qX
 split at hn
 ·rename_i h;have:n=0:=by omega
  subst this;exact h
 ·split at hn
  ·rename_i h;have:n=1:=by omega
   subst this;exact h
  ·split at hn
   ·rename_i h;have:n=2:=by omega
    subst this;exact h
   ·omega
theorem zo (hn:cK t=n+1) (hh:fN t=true) (E:n<3):t=DC n:=by
 rcases Kq hn with h|h
 ·exact h
 ·subst h
  exfalso
  match n,E with
  |0,_=>revert hh;decide
  |1,_=>revert hh;decide
  |2,_=>revert hh;decide
theorem M7 (hn:cK t=n+1) (hh:fN t=false) (E:n<3):t=qX n:=by
 rcases Kq hn with h|h
 ·subst h
  exfalso
  match n,E with
  |0,_=>revert hh;decide
  |1,_=>revert hh;decide
  |2,_=>revert hh;decide
 ·exact h
theorem ip.skip {m:List aa} (h:ip i a (l++m)):ip (i+l.length) (gc l i a) m:=by
 obtain⟨g1,g2⟩:=h
 rw[nE] at g1 g2
 have k:=sd l i a
 exact⟨by omega,g2⟩
def RW (m:MT):Prop:=dU m.ref=true/\cH m.kind=true/\cH m.ver=true/\∀ s∈m.segs,cK s.fTag=0
theorem xe {i:Int} (h:fN s.fTag=true):cM s i a=kM s (cK s.fTag - 1) i a:=by unfold cM;rw[U4 h]
theorem IQ {i:Int} (h:fN s.fTag=false) (h1:0<cK s.fTag):cM s i a=lp s (cK s.fTag - 1) i a:=by
 unfold cM;rw[if_neg (by rw[h];decide),U4 h1]
theorem Dw {lv:Nat} (E:lv<3) {L:List RO} {r:List UInt8} {n:Int} {rs:List (List UInt8)} (u:L.length=lv) (ht:fN s.fTag=false) (hv:cK s.fTag=lv+1) (h:ip i ⟨L++[⟨true,r,n,rs⟩],N⟩ (s::l)):s=jS (qX lv) [Lib.itoa (n+if lv=2 then 1 else 0),r]/\ip (i+1) ⟨L,N⟩ l:=by
 obtain⟨h1,h2⟩:=h.step
 have e:cM s (i:Int) ⟨L++[⟨true,r,n,rs⟩],N⟩=lp s lv (i:Int) ⟨L++[⟨true,r,n,rs⟩],N⟩:=by rw[IQ ht oM,hv];rfl
 rw[e] at h1 h2
 obtain⟨p,q,M,a2,a3,a4,a5,b⟩:=Gy u rfl h1
 rw[zq u M a2 a3 a4 rfl a5 b] at h2
 refine⟨?_,h2⟩
 rw[HL M,a2,M7 hv ht E]
 simp only at a5 b
 rw[<-a5,zH a3,b]
theorem IR {G:RO} (h:ip i ⟨[I,G],N⟩ (s::l)) (hh:fN s.fTag=true):
  ∃ m z p,RW m/\s::l=rF m++z/\ip (i+(rF m).length) ⟨[I,km m.ref G],p⟩ z:=by
 obtain⟨h1,h2⟩:=h.step
 have h0:=mt h1
 rw[EV] at h0
 simp only[ST,S3] at h0
 have Y:=mu hh
 have hv:cK s.fTag=2+1:=by rcases h0 with⟨_,q⟩|⟨q,_⟩|⟨q,_⟩<;>first|omega|(rw[hh] at q;cases q)
 have ht:=zo hv hh oM
 have e:cM s (i:Int) ⟨[I,G],N⟩=kM s 2 (i:Int) ⟨[I,G],N⟩:=by rw[xe hh,hv]
 rw[e] at h1 h2
 obtain⟨A,C,O⟩:=uR (lv:=2) (a:=⟨[I,G],N⟩) rfl h1
 have r8:s.fTag=kl:=ht
 have hs:∃ r k v,s=jS kl [r,k,v]/\dU r=true/\cH k=true/\cH v=true:=by
  unfold EP at A
  rw[r8,if_neg oD,U4 rfl,SR] at A
  obtain⟨T,c2⟩:=A
  have S:=HL T
  generalize s.fElements.map firstT=ts at c2 S
  match ts,c2,S with
  |[r,k,v],c2,S=>
   simp only[IY,SR] at c2
   exact⟨r,k,v,by rw[S,r8],c2.1.1,c2.1.2,c2.2⟩
 obtain⟨r,k,v,hs,r1,r2,r3⟩:=hs
 rw[C,hs,(iJ kl r [k,v]).1,(iJ kl r [k,v]).2] at h2
 generalize F:(qY r (i:Int) ⟨[I,G],N⟩)=R at h2
 have t:R.flevels=[I,km r G]:=by rw[<-F,show([I,G]:List RO)=[I]++[G] from rfl,mw];rfl
 rw[t] at h2
 obtain⟨segs,s2,z,e2,g1,g2,g3⟩:=zI l (i+1) _ rfl h2
 have d:ip (i+1) ⟨[I,km r G,⟨true,r,1,[]⟩],R.fnotes⟩ (segs++s2::z):=by rw[<-e2];exact h2
 have h4:=d.skip
 rw[zL segs g1] at h4
 obtain⟨j,t2⟩:=Dw (lv:=2) (L:=[I,km r G]) oM rfl g3 g2 h4
 refine⟨⟨r,k,v,segs⟩,z,R.fnotes,⟨r1,r2,r3,g1⟩, ?_, ?_⟩
 ·rw[e2,hs,j]
  unfold rF
  have:(1:Int)+(segs.length:Int)+(if(2:Nat)=2 then 1 else 0)=(segs.length:Int)+2:=by rw[U4 rfl];omega
  rw[this]
  simp[qX]
 ·have:i+(rF ⟨r,k,v,segs⟩).length=i+1+segs.length+1:=by simp[rF];omega
  rw[this]
  exact t2
theorem zJ:∀ (n:Nat) (l:List aa),l.length<=n->∀ (i:Nat) (I G:RO) (N:List Nt),ip i ⟨[I,G],N⟩ l->
  ∃ (ms:List MT) (s:aa) (z:List aa) (rs:List (List UInt8)) (p:List Nt),(∀ m∈ms,RW m)/\l=ms.flatMap rF++s::z/\fN s.fTag=false/\cK s.fTag=2/\
   ip (i+(ms.flatMap rF).length) ⟨[I,⟨G.fheaded,G.fref,G.fmany+(ms.length:Int),rs⟩],p⟩ (s::z)
 |n,[],_,i,I,G,N,h=>by
  have:([I,G]:List RO)=[]:=h.2
  cases this
 |0,s::l,hn,_,_,_,_,_=>by simp at hn
 |n+1,s::l,hn,i,I,G,N,h=>by
  cases hh:fN s.fTag with
  |false=>
   have h0:=mt h.step.1
   rw[EV] at h0
   simp only[ST,S3] at h0
   refine⟨[],s,l,G.frefs,N,by simp,rfl,hh, ?_,by simpa using h⟩
   rcases h0 with⟨q,_⟩|⟨_,_,q⟩|⟨_,_,q⟩
   ·rw[hh] at q;cases q
   ·omega
   ·omega
  |true=>
   obtain⟨m,z,b,m1,m2,m3⟩:=IR h hh
   have hl:z.length<=n:=by
    have:=TX List.length m2
    simp[rF] at this hn
    omega
   obtain⟨ms,s',a,rs,p,k1,k2,k3,k4,k5⟩:=zJ n z hl _ _ _ _ m3
   refine⟨m::ms,s',a,rs,p, ?_, ?_,k3,k4, ?_⟩
   ·intro x hx
    rcases Tf.1 hx with rfl|hx
    ·exact m1
    ·exact k1 x hx
   ·rw[m2,k2];simp
   ·have e1:i+((m::ms).flatMap rF).length=i+(rF m).length+(ms.flatMap rF).length:=by simp only[Tu,SS];omega
    have e2:G.fmany+((m::ms).length:Int)=G.fmany+1+(ms.length:Int):=by simp only[ST];omega
    rw[e1,e2]
    exact k5
def RX (g:GT):Prop:=dU g.ref=true/\cH g.kind=true/\∀ m∈g.msgs,RW m
theorem IU (h:ip i ⟨[I],N⟩ (s::l)) (hh:fN s.fTag=true):
  ∃ g z p,RX g/\s::l=pj g++z/\ip (i+(pj g).length) ⟨[km g.ref I],p⟩ z:=by
 obtain⟨h1,h2⟩:=h.step
 have h0:=mt h1
 rw[EV] at h0
 simp only[ST,S3] at h0
 have Y:=mu hh
 have hv:cK s.fTag=1+1:=by rcases h0 with⟨_,q⟩|⟨q,_⟩|⟨q,_⟩<;>first|omega|(rw[hh] at q;cases q)
 have ht:=zo hv hh oM
 have e:cM s (i:Int) ⟨[I],N⟩=kM s 1 (i:Int) ⟨[I],N⟩:=by rw[xe hh,hv]
 rw[e] at h1 h2
 obtain⟨A,C,O⟩:=uR (lv:=1) (a:=⟨[I],N⟩) rfl h1
 have r8:s.fTag=lm:=ht
 have hs:∃ r k,s=jS lm [r,k]/\dU r=true/\cH k=true:=by
  unfold EP at A
  rw[r8,U4 rfl,SR] at A
  obtain⟨T,c2⟩:=A
  have S:=HL T
  generalize s.fElements.map firstT=ts at c2 S
  match ts,c2,S with
  |[r,k],c2,S=>
   simp only[IX,SR] at c2
   exact⟨r,k,by rw[S,r8],c2.1,c2.2⟩
 obtain⟨r,k,hs,r1,r2⟩:=hs
 rw[C,hs,(iJ lm r [k]).1,(iJ lm r [k]).2] at h2
 generalize F:(qY r (i:Int) ⟨[I],N⟩)=R at h2
 have t:R.flevels=[km r I]:=by rw[<-F,show([I]:List RO)=[]++[I] from rfl,mw];rfl
 rw[t] at h2
 obtain⟨ms,s2,z,rs,p,g1,e2,g3,g2,h4⟩:=zJ l.length l (SZ _) (i+1) (km r I) ⟨true,r,0,[]⟩ R.fnotes h2
 obtain⟨j,t2⟩:=Dw (lv:=1) (L:=[km r I]) oM rfl g3 g2 h4
 refine⟨⟨r,k,ms⟩,z,p,⟨r1,r2,g1⟩, ?_, ?_⟩
 ·rw[e2,hs,j]
  unfold pj
  have:(0:Int)+(ms.length:Int)+(if(1:Nat)=2 then 1 else 0)=(ms.length:Int):=by rw[if_neg oM];omega
  rw[this]
  simp[qX]
 ·have:i+(pj ⟨r,k,ms⟩).length=i+1+(ms.flatMap rF).length+1:=by simp only[pj,ST,SS,S3];omega
  rw[this]
  exact t2
theorem zK:∀ (n:Nat) (l:List aa),l.length<=n->∀ (i:Nat) (I:RO) (N:List Nt),ip i ⟨[I],N⟩ l->
  ∃ (gs:List GT) (s:aa) (z:List aa) (rs:List (List UInt8)) (p:List Nt),(∀ g∈gs,RX g)/\l=gs.flatMap pj++s::z/\fN s.fTag=false/\cK s.fTag=1/\
   ip (i+(gs.flatMap pj).length) ⟨[⟨I.fheaded,I.fref,I.fmany+(gs.length:Int),rs⟩],p⟩ (s::z)
 |n,[],_,i,I,N,h=>by
  have:([I]:List RO)=[]:=h.2
  cases this
 |0,s::l,hn,_,_,_,_=>by simp at hn
 |n+1,s::l,hn,i,I,N,h=>by
  cases hh:fN s.fTag with
  |false=>
   have h0:=mt h.step.1
   rw[EV] at h0
   simp only[ST,S3] at h0
   refine⟨[],s,l,I.frefs,N,by simp,rfl,hh, ?_,by simpa using h⟩
   rcases h0 with⟨q,_⟩|⟨_,_,q⟩|⟨_,_,q⟩
   ·rw[hh] at q;cases q
   ·omega
   ·omega
  |true=>
   obtain⟨g,z,b,m1,m2,m3⟩:=IU h hh
   have hl:z.length<=n:=by
    have:=TX List.length m2
    simp[pj] at this hn
    omega
   obtain⟨gs,s',a,rs,p,k1,k2,k3,k4,k5⟩:=zK n z hl _ _ _ m3
   refine⟨g::gs,s',a,rs,p, ?_, ?_,k3,k4, ?_⟩
   ·intro x hx
    rcases Tf.1 hx with rfl|hx
    ·exact m1
    ·exact k1 x hx
   ·rw[m2,k2];simp
   ·have e1:i+((g::gs).flatMap pj).length=i+(pj g).length+(gs.flatMap pj).length:=by simp only[Tu,SS];omega
    have e2:I.fmany+((g::gs).length:Int)=I.fmany+1+(gs.length:Int):=by simp only[ST];omega
    rw[e1,e2]
    exact k5
theorem IV (h:xd l=[]) (U:l≠[]) (hi:∀ s∈l.drop 1,s.fTag≠fy):
  ∃ (r snd rcv d sec t:List UInt8) (gs:List GT),l=jS fy [r,snd,rcv,d,sec,t]::(gs.flatMap pj++[jS uh [Lib.itoa (gs.length:Int),r]])/\
   dU r=true/\cH snd=true/\cH rcv=true/\CA d=true/\CB sec=true/\(t=[]\/t=[49])/\∀ g∈gs,RX g:=by
 have hq:ip 0 ⟨[],[]⟩ l:=by
  unfold xd bk at h
  simp only[List.append_eq_nil_iff] at h
  obtain⟨M,a2⟩:=h
  refine⟨by rw[M];simp, ?_⟩
  have:=TX List.length a2
  simp only[Tn,S3] at this
  exact List.eq_nil_of_length_eq_zero oM
 match l,U,hi,hq with
 |s::l,_,hi,hq=>
  obtain⟨h1,h2⟩:=hq.step
  have h0:=mt h1
  rw[EV] at h0
  simp only[S3] at h0
  have hh:fN s.fTag=true:=by
   rcases h0 with⟨q,_⟩|⟨_,_,q⟩|⟨_,_,q⟩
   ·exact q
   ·omega
   ·omega
  have Y:=mu hh
  have hv:cK s.fTag=0+1:=by rcases h0 with⟨_,q⟩|⟨_,_,q⟩|⟨_,_,q⟩<;>omega
  have r8:s.fTag=fy:=zo hv hh oM
  have e:cM s ((0:Nat):Int) ⟨[],[]⟩=kM s 0 ((0:Nat):Int) ⟨[],[]⟩:=by rw[xe hh,hv]
  rw[e] at h1 h2
  obtain⟨A,C,O⟩:=uR (lv:=0) (a:=⟨[],[]⟩) rfl h1
  have hs:∃ r snd rcv d sec t,s=jS fy [r,snd,rcv,d,sec,t]/\dU r=true/\cH snd=true/\cH rcv=true/\CA d=true/\CB sec=true/\(t=[]\/t=[49]):=by
   unfold EP at A
   rw[r8,if_neg oD,if_neg oD,SR] at A
   obtain⟨T,c2⟩:=A
   have S:=HL T
   generalize s.fElements.map firstT=ts at c2 S
   match ts,c2,S with
   |[r,snd,rcv,d,sec,t],c2,S=>
    simp only[IZ,SR,TE,S5] at c2
    exact⟨r,snd,rcv,d,sec,t,by rw[S,r8],c2.1.1.1.1.1,c2.1.1.1.1.2,c2.1.1.1.2,c2.1.1.2,c2.1.2,c2.2⟩
  obtain⟨r,snd,rcv,d,sec,t,hs,r1,r2,r3,r4,r5,r6⟩:=hs
  rw[C,hs,(iJ fy r [snd,rcv,d,sec,t]).1,(iJ fy r [snd,rcv,d,sec,t]).2,se] at h2
  obtain⟨gs,s2,z,rs,p,g1,e2,g3,g2,h4⟩:=zK l.length l (SZ _) (0+1) ⟨true,r,0,[]⟩ [] h2
  obtain⟨j,t2⟩:=Dw (lv:=0) (L:=[]) oM rfl g3 g2 h4
  have i:z=[]:=by
   match z,t2,e2 with
   |[],_,_=>rfl
   |u::z,t2,e2=>
    exfalso
    have b:=mt t2.step.1
    rw[EV] at b
    simp only[S3] at b
    have qh:fN u.fTag=true/\cK u.fTag=0+1:=by
     rcases b with⟨q,q'⟩|⟨_,_,q⟩|⟨_,_,q⟩
     ·have:=mu q;exact⟨q,by omega⟩
     ·omega
     ·omega
    exact hi u (by rw[List.drop_one,List.tail_cons,e2];simp) (zo qh.2 qh.1 oM)
  refine⟨r,snd,rcv,d,sec,t,gs, ?_,r1,r2,r3,r4,r5,r6,g1⟩
  rw[e2,hs,j,i]
  have:(0:Int)+(gs.length:Int)+(if(0:Nat)=2 then 1 else 0)=(gs.length:Int):=by rw[if_neg oM];omega
  rw[this]
  simp[qX]
def Pp (m:Ms):MT:=⟨m.fRef,m.fKind,m.fVersion,m.fSegments⟩
def uS (g:Gp):GT:=⟨g.fRef,g.fKind,g.fMessages.map Pp⟩
theorem xf {α β b:Type} (f:α->β) (g:β->List b):∀ l:List α,(l.map f).flatMap g=l.flatMap fun a=>g (f a)
 |[]=>rfl
 |a::l=>by simp only[Tc,Tu,xf f g l]
theorem QY (g:Gp):Br g=pj (uS g):=by
 unfold Br pj uS
 simp only[xf,TL]
 rfl
theorem Ky (x:Ix):ki x=jS fy [x.fRef,x.fSender,x.fReceiver,Lib.itoa x.fDay,Lib.itoa x.fSecond,bif x.fTest then[49] else[]]::((x.fGroups.map uS).flatMap pj++[jS uh [Lib.itoa ((x.fGroups.map uS).length:Int),x.fRef]]):=by
 unfold ki
 simp only[xf,TL,<-QY]
 rfl
theorem HO {t:List UInt8} (h:x4 t=false):cK t=0:=by
 unfold x4 Bx Bz at h
 simp only[List.any_cons,List.any_nil,Bool.or_false,TS,Tk] at h
 obtain⟨⟨h1,h2,E⟩,h4,h5,h6⟩:=h
 unfold cK
 rw[if_neg (by rintro(e|e);exact h1 e;exact h4 e),if_neg (by rintro(e|e);exact h2 e;exact h5 e),if_neg (by rintro(e|e);exact E e;exact h6 e)]
theorem EX {α:Type} (f:α->List UInt8) {l:List α} (h:∀ (i:Nat) (a:α),l[i]?=some a->(l.take i).any (fun o=>decide (f o=f a))=false):(l.map f).Nodup:=by
 unfold List.Nodup
 rw[List.pairwise_iff_getElem]
 intro i j hi hj r0 e
 simp only[TL] at hi hj
 simp only[List.getElem_map] at e
 have:=h j l[j] (S0 hj)
 rw[UE] at this
 refine this l[i] ?_ (by simpa using e)
 rw[List.mem_take_iff_getElem]
 exact⟨i,by omega,rfl⟩
theorem Kz {x:Ix} (hc:Iy x=0) (hl:(ki x).length<=2000):xd (ki x)=[]:=by
 have t:=Bq hc
 obtain⟨_,_,_,_,h5,_⟩:=F4 hc
 have e:(x.fGroups.flatMap Br).length<=2000:=by rw[jk] at hl;omega
 have b:=t.day
 have c:=t.sec
 simp only[l7,TS,Tk] at b c
 rw[Ky]
 refine Kx t.ref t.snd t.rcv oM oM (by cases x.fTest;exact .inl rfl;exact .inr rfl) ?_ ?_ (by rw[TL];have:=wL (x:=x);omega)
 ·intro F q
  obtain⟨g,hg,rfl⟩:=Tp.1 q
  obtain⟨k,hk,rfl⟩:=TM.1 hg
  have r2:x.fGroups[k]?=some x.fGroups[k]:=S0 hk
  have a:=t.grp x.fGroups[k] hg
  have hz:=k8 h5 k oM oM
  unfold F_ at hz
  simp only[r2] at hz
  obtain⟨_,_,_,Z⟩:=Bp hz
  have o:(Br x.fGroups[k]).length<=2000:=TW (tU r2) e
  have s3:(x.fGroups[k].fMessages.flatMap Co).length<=2000:=by rw[kK] at o;omega
  refine⟨a.ref,a.kind, ?_, ?_,by show(x.fGroups[k].fMessages.map Pp).length<=2000;rw[TL];have:=wK (g:=x.fGroups[k]);omega⟩
  ·intro m' r7
   obtain⟨m,u7,rfl⟩:=Tp.1 r7
   obtain⟨q1,W,q3,q4,q5⟩:=a.msg m u7
   obtain⟨j,hj,rfl⟩:=TM.1 u7
   have:=tU (f:=Co) (S0 hj)
   rw[kJ] at this
   exact⟨q1,W,q3,fun s hs=>HO (q5 s hs),by show(x.fGroups[k].fMessages[j]).fSegments.length<=2000;omega⟩
  ·show((x.fGroups[k].fMessages.map Pp).map (·.ref)).Nodup
   rw[Us]
   refine EX (fun m:Ms=>m.fRef) (fun i m hi=> ?_)
   have hz:=k8 Z i oM (by have:=(SY.1 hi).1;omega)
   unfold JU at hz
   simp only[hi] at hz
   exact(F5 hz).2.2.1
 ·rw[Us]
  refine EX (fun g:Gp=>g.fRef) (fun i g hi=> ?_)
  have hz:=k8 h5 i oM (by have:=(SY.1 hi).1;omega)
  unfold F_ at hz
  simp only[hi] at hz
  exact(Bp hz).2.2.1
def Kr (m:MT):Ms:=⟨m.ref,m.kind,m.ver,m.segs⟩
def B4 (g:GT):Gp:=⟨g.ref,g.kind,g.msgs.map Kr⟩
noncomputable def Pm (r snd rcv d sec t:List UInt8) (gs:List GT):Ix:=⟨r,snd,rcv,kj d,kj sec,decide (t=[49]),gs.map B4⟩
theorem QW (g:GT):uS (B4 g)=g:=by
 obtain⟨r,k,ms⟩:=g
 unfold uS B4
 simp only[Us]
 congr 1
 conv=>rhs;rw[<-Vh ms]
 exact TR fun m _=>rfl
theorem Pn (gs:List GT):(gs.map B4).map uS=gs:=by
 rw[Us]
 conv=>rhs;rw[<-Vh gs]
 exact TR fun g _=>QW g
theorem Po {r snd rcv d sec t:List UInt8} {gs:List GT} (hd:fB d=true) (hs:fB sec=true) (ht:t=[]\/t=[49]):
  ki (Pm r snd rcv d sec t gs)=jS fy [r,snd,rcv,d,sec,t]::(gs.flatMap pj++[jS uh [Lib.itoa (gs.length:Int),r]]):=by
 rw[Ky]
 simp only[Pm,Pn,zH hd,zH hs]
 rcases ht with rfl|rfl<;>rfl
structure M8 (x:Ix):Prop where
 ref:dU x.fRef=true
 snd:cH x.fSender=true
 rcv:cH x.fReceiver=true
 day:1<=x.fDay/\x.fDay<=3652059
 sec:0<=x.fSecond/\x.fSecond<=86399
 grp:∀ g∈x.fGroups,dU g.fRef=true/\cH g.fKind=true/\∀ m∈g.fMessages,dU m.fRef=true/\cH m.fKind=true/\cH m.fVersion=true/\∀ s∈m.fSegments,cK s.fTag=0
theorem Ks {l:List aa} (h:xd l=[]) (U:l≠[]) (hi:∀ s∈l.drop 1,s.fTag≠fy):∃ x,l=ki x/\M8 x:=by
 obtain⟨r,snd,rcv,d,sec,t,gs,e,h1,h2,E,h4,h5,h6,h7⟩:=IV h U hi
 simp only[CA,CB,SR,S5] at h4 h5
 refine⟨Pm r snd rcv d sec t gs,by rw[e,Po h4.1.1 h5.1 h6],h1,h2,E,⟨h4.1.2,h4.2⟩,⟨ye h5.1,h5.2⟩, ?_⟩
 intro g hg
 obtain⟨q,hq,rfl⟩:=Tp.1 hg
 obtain⟨M,a2,a3⟩:=h7 q hq
 refine⟨M,a2,fun m Z=> ?_⟩
 obtain⟨k,hk,rfl⟩:=Tp.1 Z
 exact a3 k hk
variable {i:Nat} {r:List aa}
def iR (x:Ix) (gs:List Gp):Ix:=⟨x.fRef,x.fSender,x.fReceiver,x.fDay,x.fSecond,x.fTest,gs⟩
structure RY {β:Type} (l:List aa) (Φ:Ix->Nat->β):Prop where
 hI:∀ (i:Nat) (r snd rcv d sec t:List UInt8) (x:Ix),l[i]?=some (jS fy [r,snd,rcv,d,sec,t])->fB d=true->fB sec=true->Φ x i=Φ ⟨r,snd,rcv,kj d,kj sec,decide (t=[49]),[]⟩ (i+1)
 hG:∀ (i:Nat) (r k:List UInt8) (x:Ix),l[i]?=some (jS lm [r,k])->x.fGroups.length<=i->Φ x i=Φ (iR x (x.fGroups++[⟨r,k,[]⟩])) (i+1)
 hM:∀ (i:Nat) (r k v:List UInt8) (x:Ix) (gs:List Gp) (g:Gp),l[i]?=some (jS kl [r,k,v])->gs.length<=i->g.fMessages.length<=i->Φ (iR x (gs++[g])) i=Φ (iR x (gs++[⟨g.fRef,g.fKind,g.fMessages++[⟨r,k,v,[]⟩]⟩])) (i+1)
 hT:∀ (i:Nat) (s:aa) (x:Ix),l[i]?=some s->(s.fTag=uh\/s.fTag=yQ\/s.fTag=xg)->Φ x i=Φ x (i+1)
 hS:∀ (i:Nat) (s:aa) (x:Ix) (gs:List Gp) (g:Gp) (ms:List Ms) (m:Ms),l[i]?=some s->cK s.fTag=0->gs.length<=i->ms.length<=i->m.fSegments.length<=i->
  Φ (iR x (gs++[⟨g.fRef,g.fKind,ms++[m]⟩])) i=Φ (iR x (gs++[⟨g.fRef,g.fKind,ms++[⟨m.fRef,m.fKind,m.fVersion,m.fSegments++[s]⟩]⟩])) (i+1)
theorem qT {α:Type} {l:List α} {s:α} {r:List α} (h:l.drop i=s::r):l[i]?=some s/\l.drop (i+1)=r:=by
 refine⟨?_, ?_⟩
 ·rw[<-List.head?_drop,h];rfl
 ·rw[<-List.tail_drop,h];rfl
theorem QX (x:Ix):(x.fGroups.map uS).map B4=x.fGroups:=by
 rw[Us]
 conv=>rhs;rw[<-Vh x.fGroups]
 refine TR fun g _=> ?_
 obtain⟨r,k,ms⟩:=g
 simp only[Function.comp,uS,B4,Us,id]
 congr 1
 conv=>rhs;rw[<-Vh ms]
 exact TR fun m _=>rfl
section
variable {β:Type} {l:List aa} {Φ:Ix->Nat->β} (H:RY l Φ)
include H
theorem ES (x:Ix) (gs:List Gp) (g:Gp) (ms:List Ms):∀ (segs:List aa) (m:Ms) (i:Nat) (r:List aa),l.drop i=segs++r->(∀ s∈segs,cK s.fTag=0)->gs.length<=i->ms.length<=i->m.fSegments.length<=i->
  Φ (iR x (gs++[⟨g.fRef,g.fKind,ms++[m]⟩])) i=Φ (iR x (gs++[⟨g.fRef,g.fKind,ms++[⟨m.fRef,m.fKind,m.fVersion,m.fSegments++segs⟩]⟩])) (i+segs.length)
 |[],m,i,r,_,_,_,_,_=>by simp
 |s::segs,m,i,r,h,ht,h1,h2,E=>by
  obtain⟨a,b⟩:=qT h
  rw[H.hS i s x gs g ms m a (ht s oS) h1 h2 E]
  have:=ES x gs g ms segs ⟨m.fRef,m.fKind,m.fVersion,m.fSegments++[s]⟩ (i+1) r b (fun s hs=>ht s (To _ hs)) oM oM oT
  rw[this]
  simp only[S6,Td,S8,ST]
  rw[show i+1+segs.length=i+(segs.length+1) by omega]
theorem M9 (x:Ix) (gs:List Gp) (g:Gp) (m:MT) (he:∀ s∈m.segs,cK s.fTag=0) (h:l.drop i=rF m++r) (h1:gs.length<=i) (h2:g.fMessages.length<=i):
  Φ (iR x (gs++[g])) i=Φ (iR x (gs++[⟨g.fRef,g.fKind,g.fMessages++[Kr m]⟩])) (i+(rF m).length):=by
 have h:l.drop i=jS kl [m.ref,m.kind,m.ver]::(m.segs++(jS xg [Lib.itoa ((m.segs.length:Int)+2),m.ref]::r)):=by rw[h];simp[rF]
 obtain⟨a,b⟩:=qT h
 rw[H.hM i _ _ _ x gs g a h1 h2]
 have E:=ES H x gs g g.fMessages m.segs ⟨m.ref,m.kind,m.ver,[]⟩ (i+1) _ b he oM oM oS
 rw[E]
 have hc:l.drop (i+1+m.segs.length)=jS xg [Lib.itoa ((m.segs.length:Int)+2),m.ref]::r:=by rw[<-T4,b,UI]
 obtain⟨c,_⟩:=qT hc
 rw[H.hT _ _ _ c (.inr (.inr rfl))]
 have:i+(rF m).length=i+1+m.segs.length+1:=by simp[rF];omega
 rw[this]
 simp only[S8,Kr]
theorem ET (x:Ix) (gs:List Gp):∀ (ms:List MT) (g:Gp) (i:Nat) (r:List aa),(∀ m∈ms,∀ s∈m.segs,cK s.fTag=0)->l.drop i=ms.flatMap rF++r->gs.length<=i->g.fMessages.length<=i->
  Φ (iR x (gs++[g])) i=Φ (iR x (gs++[⟨g.fRef,g.fKind,g.fMessages++ms.map Kr⟩])) (i+(ms.flatMap rF).length)
 |[],g,i,r,_,_,_,_=>by simp
 |m::ms,g,i,r,he,h,h1,h2=>by
  have h:l.drop i=rF m++(ms.flatMap rF++r):=by rw[h];simp
  rw[M9 H x gs g m (he m oS) h h1 h2]
  have hl:2<=(rF m).length:=by simp[rF]
  have hc:l.drop (i+(rF m).length)=ms.flatMap rF++r:=by rw[<-T4,h,UI]
  rw[ET x gs ms ⟨g.fRef,g.fKind,g.fMessages++[Kr m]⟩ (i+(rF m).length) r (fun m Z=>he m (To _ Z)) hc oM oT]
  simp only[S6,Td,S8,Tc,Tu,SS]
  rw[show i+(rF m).length+(ms.flatMap rF).length=i+((rF m).length+(ms.flatMap rF).length) by omega]
theorem M_ (x:Ix) (gs:List Gp) (g:GT) (he:∀ m∈g.msgs,∀ s∈m.segs,cK s.fTag=0) (h:l.drop i=pj g++r) (h1:gs.length<=i):
  Φ (iR x gs) i=Φ (iR x (gs++[B4 g])) (i+(pj g).length):=by
 have h:l.drop i=jS lm [g.ref,g.kind]::(g.msgs.flatMap rF++(jS yQ [Lib.itoa (g.msgs.length:Int),g.ref]::r)):=by rw[h];simp[pj]
 obtain⟨a,b⟩:=qT h
 rw[H.hG i _ _ (iR x gs) a h1]
 have E:=ET H x gs g.msgs ⟨g.ref,g.kind,[]⟩ (i+1) _ he b oM oS
 have e:iR (iR x gs) ((iR x gs).fGroups++[⟨g.ref,g.kind,[]⟩])=iR x (gs++[⟨g.ref,g.kind,[]⟩]):=rfl
 rw[e,E]
 have hc:l.drop (i+1+(g.msgs.flatMap rF).length)=jS yQ [Lib.itoa (g.msgs.length:Int),g.ref]::r:=by rw[<-T4,b,UI]
 obtain⟨c,_⟩:=qT hc
 rw[H.hT _ _ _ c (.inr (.inl rfl))]
 have:i+(pj g).length=i+1+(g.msgs.flatMap rF).length+1:=by simp only[pj,ST,SS,S3];omega
 rw[this]
 simp only[S8,B4]
theorem EU (x:Ix):∀ (a:List GT) (gs:List Gp) (i:Nat) (r:List aa),(∀ g∈a,∀ m∈g.msgs,∀ s∈m.segs,cK s.fTag=0)->l.drop i=a.flatMap pj++r->gs.length<=i->
  Φ (iR x gs) i=Φ (iR x (gs++a.map B4)) (i+(a.flatMap pj).length)
 |[],gs,i,r,_,_,_=>by simp
 |g::a,gs,i,r,he,h,h1=>by
  have h:l.drop i=pj g++(a.flatMap pj++r):=by rw[h];simp
  rw[M_ H x gs g (he g oS) h h1]
  have hl:2<=(pj g).length:=by simp[pj]
  have hc:l.drop (i+(pj g).length)=a.flatMap pj++r:=by rw[<-T4,h,UI]
  rw[EU x a (gs++[B4 g]) (i+(pj g).length) r (fun g hg=>he g (To _ hg)) hc oT]
  simp only[S6,Td,S8,Tc,Tu,SS]
  rw[show i+(pj g).length+(a.flatMap pj).length=i+((pj g).length+(a.flatMap pj).length) by omega]
theorem Na {x y:Ix} (hl:l=ki x) (hd:fB (Lib.itoa x.fDay)=true/\kj (Lib.itoa x.fDay)=x.fDay) (hs:fB (Lib.itoa x.fSecond)=true/\kj (Lib.itoa x.fSecond)=x.fSecond) (he:∀ g∈x.fGroups,∀ m∈g.fMessages,∀ s∈m.fSegments,cK s.fTag=0):Φ y 0=Φ x l.length:=by
 rw[Ky] at hl
 have h:l.drop 0=jS fy [x.fRef,x.fSender,x.fReceiver,Lib.itoa x.fDay,Lib.itoa x.fSecond,bif x.fTest then[49] else[]]::((x.fGroups.map uS).flatMap pj++[jS uh [Lib.itoa ((x.fGroups.map uS).length:Int),x.fRef]]):=by rw[U5];exact hl
 obtain⟨a,b⟩:=qT h
 rw[H.hI 0 _ _ _ _ _ _ y a hd.1 hs.1,hd.2,hs.2]
 have ht:decide ((bif x.fTest then[49] else[]:List UInt8)=[49])=x.fTest:=by cases x.fTest<;>rfl
 rw[ht]
 have E:=EU H x (x.fGroups.map uS) [] 1 _ (fun g hg m Z s hs=>by
  obtain⟨F,q,rfl⟩:=Tp.1 hg
  obtain⟨m',r7,rfl⟩:=Tp.1 Z
  exact he F q m' r7 s hs) b oS
 have e:(⟨x.fRef,x.fSender,x.fReceiver,x.fDay,x.fSecond,x.fTest,[]⟩:Ix)=iR x []:=rfl
 rw[e,E]
 have hc:l.drop (1+((x.fGroups.map uS).flatMap pj).length)=[jS uh [Lib.itoa ((x.fGroups.map uS).length:Int),x.fRef]]:=by rw[<-T4,b,UI]
 obtain⟨c,_⟩:=qT hc
 rw[H.hT _ _ _ c (.inl rfl),S8,QX]
 have e1:iR x x.fGroups=x:=rfl
 have e2:1+((x.fGroups.map uS).flatMap pj).length+1=l.length:=by rw[hl];simp only[ST,SS,S3];omega
 rw[e1,e2]
end
variable {A R S:Type} {k:A->Option R} {r:Option R}
theorem qQ {f:S->Option (S⊕A)} {s s':S} (h:f s=some (.inl s')):bc f s=bc f s':=by rw[b3,h]
theorem MI {x:S->Option (S⊕A)} {s0:S} (h:∀ f:S->Option (S⊕A),(∀ s,f s=x s)->(bc f s0).bind k=r):(bc x s0).bind k=r:=h x fun _=>rfl
theorem OI {a b:Option A} (h:a=b) (hk:b.bind k=r):a.bind k=r:=by rw[h];exact hk
theorem BS {α:Type} (l:List α) (a b:α) (h:l.length<9223372036854775807):(l++[a]).set (IntKind.i64.wrap (((l++[a]).length:Int) - 1)).toNat b=l++[b]:=by
 rw[(nY l a h).2,T3 _ _ (SZ _),T9]
 rfl
theorem Gq {l:List UInt8} (h:fB l=true):eE l=some (kj l):=by
 unfold fB at h
 simp only[SR,TI,Tk] at h
 exact HP h.1.1.1 oM h.1.2
def Pl (x:Ix) (i:Nat):List UInt8×List UInt8×List UInt8×Int×Int×Bool×List Gp×List UInt8×List UInt8×List UInt8×Int×Int×Bool×List Gp×Int:=
 ([],[],[],0,0,false,[],x.fRef,x.fSender,x.fReceiver,x.fDay,x.fSecond,x.fTest,x.fGroups,(i:Int))
theorem RF {s:aa} (h:zM s.fElements):∃ z,jv s=some z:=⟨_,vM s.fTag h⟩
theorem QJ {tag:List UInt8} {ts:List (List UInt8)} (h:zM (jS tag ts).fElements):jv (jS tag ts)=some (ts,true):=by
 rw[show jS tag ts=⟨(jS tag ts).fTag,(jS tag ts).fElements⟩ from rfl,vM _ h]
 unfold Ps
 rw[U4 (qU tag ts),qV]
theorem Sj {t:List UInt8} (h:cK t=0):decide (t=[73,72,68])=false/\decide (t=[71,72,68])=false/\decide (t=[77,72,68])=false/\decide (t=[73,84,82])=false/\decide (t=[71,84,82])=false/\decide (t=[77,84,82])=false:=by
 simp only[Tk]
 refine⟨?_, ?_, ?_, ?_, ?_, ?_⟩<;>(rintro rfl;revert h;decide)
set_option maxHeartbeats 1000000 in
theorem Sk {x:Ix} {l:List aa} (hl:l=ki x) (hA:Py l) (hd:fB (Lib.itoa x.fDay)=true/\kj (Lib.itoa x.fDay)=x.fDay) (hs:fB (Lib.itoa x.fSecond)=true/\kj (Lib.itoa x.fSecond)=x.fSecond) (he:∀ g∈x.fGroups,∀ m∈g.fMessages,∀ s∈m.fSegments,cK s.fTag=0):gS l=some x:=by
 have hn:=hA.1
 unfold gS tz;dsimp only
 refine MI fun f C=> ?_
 refine OI (b:=bc f (Pl x l.length)) (Na (l:=l) (Φ:=fun x i=>bc f (Pl x i)) ⟨?_, ?_, ?_, ?_, ?_⟩ (y:=⟨[],[],[],0,0,false,[]⟩) hl hd hs he) ?_
 ·intro i r snd rcv d sec t y hi S V
  have s7:=cB hi
  refine qQ ?_
  rw[C];delta Pl;dsimp only
  have H:decide ((jS fy [r,snd,rcv,d,sec,t]).fTag=[73,72,68])=true:=rfl
  have g0:b4 [r,snd,rcv,d,sec,t] 0=some r:=rfl
  have g1:b4 [r,snd,rcv,d,sec,t] 1=some snd:=rfl
  have g2:b4 [r,snd,rcv,d,sec,t] 2=some rcv:=rfl
  have g3:b4 [r,snd,rcv,d,sec,t] 3=some d:=rfl
  have g4:b4 [r,snd,rcv,d,sec,t] 4=some sec:=rfl
  have g5:b4 [r,snd,rcv,d,sec,t] 5=some t:=rfl
  rw[br s7,S4,aw,hi]
  rw[SQ,QJ (hA.2 _ (SW hi)),SQ]
  try rw[SQ]
  rw[H,S4]
  simp only[SQ,g0,g1,g2,g3,g4,g5,Gq S,Gq V,bB i oM]
 ·intro i r k y hi hg
  have s7:=cB hi
  refine qQ ?_
  rw[C];delta Pl;dsimp only
  have H:decide ((jS lm [r,k]).fTag=[73,72,68])=false:=rfl
  have d2:decide ((jS lm [r,k]).fTag=[71,72,68])=true:=rfl
  have g0:b4 [r,k] 0=some r:=rfl
  have g1:b4 [r,k] 1=some k:=rfl
  rw[br s7,S4,aw,hi]
  rw[SQ,QJ (hA.2 _ (SW hi)),SQ]
  try rw[SQ]
  rw[H,S7,d2,S4]
  simp only[SQ,g0,g1,bB i oM]
  rw[bU (by simp only[ST,S3];omega)]
  rfl
 ·intro i r k v y gs g hi hg Z
  have s7:=cB hi
  refine qQ ?_
  rw[C];delta Pl iR;dsimp only
  have H:decide ((jS kl [r,k,v]).fTag=[73,72,68])=false:=rfl
  have d2:decide ((jS kl [r,k,v]).fTag=[71,72,68])=false:=rfl
  have q:decide ((jS kl [r,k,v]).fTag=[77,72,68])=true:=rfl
  have g0:b4 [r,k,v] 0=some r:=rfl
  have g1:b4 [r,k,v] 1=some k:=rfl
  have g2:b4 [r,k,v] 2=some v:=rfl
  rw[br s7,S4,aw,hi]
  rw[SQ,QJ (hA.2 _ (SW hi)),SQ]
  try rw[SQ]
  rw[H,S7,d2,S7,q,S4]
  simp only[SQ,g0,g1,g2,bB i oM,(nY gs g oM).1,BS gs g _ oM]
  rw[bU (by simp only[ST,S3];omega)]
 ·intro i s y hi ht
  have s7:=cB hi
  refine qQ ?_
  rw[C];delta Pl;dsimp only
  obtain⟨z,hz⟩:=RF (hA.2 _ (SW hi))
  rw[br s7,S4,aw,hi]
  rw[SQ,hz,SQ]
  try rw[SQ]
  have H:decide (s.fTag=[73,72,68])=false:=by rcases ht with ht|ht|ht<;>(rw[ht];rfl)
  have d2:decide (s.fTag=[71,72,68])=false:=by rcases ht with ht|ht|ht<;>(rw[ht];rfl)
  have q:decide (s.fTag=[77,72,68])=false:=by rcases ht with ht|ht|ht<;>(rw[ht];rfl)
  rw[H,S7,d2,S7,q,S7]
  rcases ht with ht|ht|ht
  ·have a:decide (s.fTag=[73,84,82])=true:=by rw[ht];rfl
   rw[a,S4,bB i oM]
   try simp only[S4]
  ·have a:decide (s.fTag=[73,84,82])=false:=by rw[ht];rfl
   have c:decide (s.fTag=[71,84,82])=true:=by rw[ht];rfl
   rw[a,S7,c,S4,bB i oM]
   try simp only[S4]
  ·have a:decide (s.fTag=[73,84,82])=false:=by rw[ht];rfl
   have c:decide (s.fTag=[71,84,82])=false:=by rw[ht];rfl
   have e:decide (s.fTag=[77,84,82])=true:=by rw[ht];rfl
   rw[a,S7,c,S7,e,S4,bB i oM]
   try simp only[S4]
 ·intro i s y gs g ms m hi ht hg j p
  have s7:=cB hi
  refine qQ ?_
  rw[C];delta Pl iR;dsimp only
  obtain⟨z,hz⟩:=RF (hA.2 _ (SW hi))
  obtain⟨H,d2,q,a,c,e⟩:=Sj ht
  rw[br s7,S4,aw,hi]
  rw[SQ,hz,SQ]
  try rw[SQ]
  rw[H,S7,d2,S7,q,S7,a,S7,c,S7,e,S7]
  simp only[SQ,bB i oM,(nY gs _ oM).1,BS gs _ _ oM,(nY ms m oM).1,BS ms m _ oM]
  rw[bU (by simp only[ST,S3];omega)]
 ·rw[b3,C]
  delta Pl
  simp only[aB,S7]
  rfl

variable {i:Int} {n:Nat} {rl:List RO} {α β:Type} {P:α->β->Prop} {l:List α} {m:List β} {x:α}
abbrev PA:=a7
abbrev PO:=kF
variable {pl:List PO}
theorem E3 (k:List UInt8) (v:Bool) (k':List UInt8):∀ (W:List (List UInt8×Bool)),uk (FX W k v) k'=if k'=k then some v else uk W k'
 |[]=>by
  unfold FX uk
  by_cases h:k'=k<;>simp[h,uk]
 |p::W=>by
  unfold FX
  by_cases Y:k=p.1
  ·rw[U4 Y]
   unfold uk
   by_cases h:k'=k
   ·simp[h]
   ·simp[h,<-Y]
  ·rw[if_neg Y]
   show(if k'=p.1 then some p.2 else uk (FX W k v) k')=_
   rw[E3 k v k' W]
   by_cases h:k'=k
   ·subst h;simp[Y,uk]
   ·simp[h,uk]
inductive vH {α β:Type} (P:α->β->Prop):List α->List β->Prop
 |nil:vH P [] []
 |cons {x:α} {y:β} {l:List α} {m:List β}:P x y->vH P l m->vH P (x::l) (y::m)
theorem vH.len (h:vH P l m):l.length=m.length:=by
 induction h with
 |nil=>rfl
 |cons _ _ ih=>simp[ih]
theorem vH.app (h:vH P l m) {l':List α} {m':List β} (g:vH P l' m'):vH P (l++l') (m++m'):=by
 induction h with
 |nil=>exact g
 |cons h1 _ ih=>exact .cons h1 ih
theorem vH.take (h:vH P l m) (n:Nat):vH P (l.take n) (m.take n):=by
 induction h generalizing n with
 |nil=>simp;exact .nil
 |cons h1 _ ih=>
  cases n with
  |zero=>exact .nil
  |succ n=>exact .cons h1 (ih n)
theorem vH.get (h:vH P l m) (hx:l[n]?=some x):∃ y,m[n]?=some y/\P x y:=by
 induction h generalizing n with
 |nil=>simp at hx
 |cons h1 _ ih=>
  cases n with
  |zero=>simp at hx;subst hx;exact⟨_,rfl,h1⟩
  |succ n=>exact ih (by simpa using hx)
theorem vH.rep {y:β} (h:P x y) (n:Nat):vH P (List.replicate n x) (List.replicate n y):=by
 induction n with
 |zero=>exact .nil
 |succ n ih=>exact .cons h ih
theorem vH.snoc {α β:Type} {P:α->β->Prop} {x:α}:∀ {l:List α} {m:List β},vH P (l++[x]) m->∃ m' y,m=m'++[y]/\vH P l m'/\P x y
 |[],m,h=>by
  cases h with
  |cons h1 h2=>cases h2;exact⟨[],_,rfl,.nil,h1⟩
 |a::l,m,h=>by
  cases h with
  |cons h1 h2=>
   obtain⟨m',y,rfl,g1,g2⟩:=vH.snoc h2
   exact⟨_::m',y,rfl,.cons h1 g1,g2⟩
def R0 (W:List (List UInt8×Bool)) (l:List (List UInt8)):Prop:=∀ y,(uk W y).getD false=decide (y∈l)
structure Rl (p:PO) (r:RO):Prop where
 kn:p.fknown=r.fheaded
 rf:p.fref=r.fref
 ma:p.fmany=r.fmany
 rs:R0 p.frefs r.frefs
structure R2 (i:Int) (p:PO) (r:RO):Prop where
 kn:p.fknown=r.fheaded
 rf:p.fref=r.fref
 ma:r.fmany=i - p.fat
 at0:0<=p.fat
inductive DE (i:Int):List PO->List RO->Prop
 |low {pl:List PO} {rl:List RO}:pl.length<=2->vH Rl pl rl->DE i pl rl
 |top {pl:List PO} {rl:List RO} {x:PO} {y:RO}:pl.length=2->vH Rl pl rl->R2 i x y->DE i (pl++[x]) (rl++[y])
structure MZ (i:Int) (p:PA) (r:RA):Prop where
 nt:p.fnotes=r.fnotes
 lv:DE i p.flevels r.flevels
theorem DE.len (h:DE i pl rl):pl.length=rl.length:=by
 cases h with
 |low _ h=>exact h.len
 |top _ h _=>simp[h.len]
theorem DE.take (h:DE i pl rl) (hn:n<=2):vH Rl (pl.take n) (rl.take n):=by
 cases h with
 |low _ h=>exact h.take n
 |top h0 h _=>
  rw[Ur oM,Ur (by rw[<-h.len];omega)]
  exact h.take n
theorem qZ (a:PA) (k i:Int) (h:a.fnotes.length<=100000):bC a k i=some ((),⟨a.flevels,a.fnotes++[⟨k,i⟩]⟩):=by
 unfold bC tt;dsimp only
 unfold lG mh
 rw[U4 (by simp only[ST,S3];omega)]
 rfl
theorem DF (a:PA) (c:Nat) (i:Int) (h:a.fnotes.length<=50000) (hl:a.flevels.length<=3):eD a (c:Int) i=some ((),⟨a.flevels.take c,a.fnotes++List.replicate (a.flevels.length - c) ⟨2,i⟩⟩):=by
 unfold eD tu;dsimp only
 rw[show(a.flevels,a.fnotes)=((fun d:Nat=>(a.flevels.take (a.flevels.length - d),a.fnotes++List.replicate d (⟨2,i⟩:Nt))) 0) by simp]
 refine wS (X:=Nat) (fun d:Nat=>(a.flevels.take (a.flevels.length - d),a.fnotes++List.replicate d (⟨2,i⟩:Nt))) (fun d=>a.flevels.length - d) (fun d=>d<=a.flevels.length - c) ?_ 0 (TK _)
 intro d hd
 have I:(a.flevels.take (a.flevels.length - d)).length=a.flevels.length - d:=by rw[Th];omega
 rcases Ty d (a.flevels.length - c) with h1|h1
 ·refine .inl ⟨d+1,h1,by omega, ?_⟩
  have H:decide ((c:Int)<((a.flevels.take (a.flevels.length - d)).length:Int))=true:=UU (by rw[I];omega)
  have hn:=qZ ⟨a.flevels.take (a.flevels.length - d),a.fnotes++List.replicate d ⟨2,i⟩⟩ 2 i (by simp only[SS,Tn];omega)
  have w:IntKind.i64.wrap (((a.flevels.take (a.flevels.length - d)).length:Int) - 1)=((a.flevels.length - (d+1):Nat):Int):=by rw[I,bh _ oM oM];omega
  dsimp only
  rw[H,hn]
  simp only[S4,SQ,w]
  rw[tR _ _ (by rw[I];omega),List.take_take,UR oM,S6,E1]
  rfl
 ·have r2:d=a.flevels.length - c:=by omega
  have H:decide ((c:Int)<((a.flevels.take (a.flevels.length - d)).length:Int))=false:=TZ (by rw[I];omega)
  refine .inr ⟨.inl (a.flevels.take (a.flevels.length - d),a.fnotes++List.replicate d ⟨2,i⟩), ?_, ?_⟩
  ·dsimp only
   rw[H];rfl
  ·unfold c3
   rw[r2]
   have:a.flevels.take (a.flevels.length - (a.flevels.length - c))=a.flevels.take c:=by
    rcases Ty c a.flevels.length with h2|h2
    ·rw[show a.flevels.length - (a.flevels.length - c)=c by omega]
    ·rw[Tt h2,Tt oM]
   rw[this]
theorem HU:lX=some [fy,lm,kl]:=by
 unfold lX aZ;dsimp only
 rfl
theorem Nl:lY=some [uh,yQ,xg]:=by
 unfold lY aZ;dsimp only
 rfl
theorem Q3 (a b c x:List UInt8):dQ [a,b,c] x=some (if x=a then 0 else if x=b then 1 else if x=c then 2 else -1):=by
 unfold dQ ji;dsimp only
 have f:IntKind.i64.wrap (0+1)=1:=by rw[bh _ oM oM];omega
 have I:IntKind.i64.wrap (1+1)=2:=by rw[bh _ oM oM];omega
 have G:IntKind.i64.wrap (2+1)=3:=by rw[bh _ oM oM];omega
 have g0:b4 [a,b,c] 0=some a:=rfl
 have g1:b4 [a,b,c] 1=some b:=rfl
 have g2:b4 [a,b,c] 2=some c:=rfl
 have d0:decide ((0:Int)<(([a,b,c].length:Nat):Int))=true:=rfl
 have H:decide ((1:Int)<(([a,b,c].length:Nat):Int))=true:=rfl
 have d2:decide ((2:Int)<(([a,b,c].length:Nat):Int))=true:=rfl
 have q:decide ((3:Int)<(([a,b,c].length:Nat):Int))=false:=rfl
 rw[b3]
 simp only[d0,S4,g0,SQ,f]
 by_cases h1:x=a
 ·simp[h1,h_,c3]
 ·simp only[TZ h1,S7,if_neg h1]
  rw[b3]
  simp only[H,S4,g1,SQ,I]
  by_cases h2:x=b
  ·simp[h2,h_,c3]
  ·simp only[TZ h2,S7,if_neg h2]
   rw[b3]
   simp only[d2,S4,g2,SQ,G]
   by_cases E:x=c
   ·simp[E,h_,c3]
   ·simp only[TZ E,S7,if_neg E]
    rw[b3]
    simp only[q,S7]
    simp[h_,c3]
variable {es:List aj} {lv:Nat}
def yS:PO:=⟨false,[],0,0,[]⟩
theorem Q4:Rl yS B5:=⟨rfl,rfl,rfl,fun y=>by simp[yS,B5,uk]⟩
theorem Pz (lv:Nat) (L:List PO) (N:List Nt) (e:lv<=3) (u:L.length<=lv) (K:List PO×List Nt->Option (Unit×PA)):
  (bc (fun s:List PO×List Nt=>bif decide (((s.1.length:Nat):Int)<(lv:Int)) then mh (lG (s.1.length+1)) (some (.inl (s.1++[yS],s.2))) else h_ (some (.inl (s.1,s.2)))) (L,N)).bind (c3 K)=K (L++List.replicate (lv - L.length) yS,N):=by
 rw[show(L,N)=((fun d:Nat=>(L++List.replicate d yS,N)) 0) by simp]
 refine wS (X:=Nat) (fun d:Nat=>(L++List.replicate d yS,N)) (fun d=>lv - L.length - d) (fun d=>d<=lv - L.length) ?_ 0 (TK _)
 intro d hd
 have I:(L++List.replicate d yS).length=L.length+d:=by rw[SS,Tn]
 rcases Ty d (lv - L.length) with h1|h1
 ·refine .inl ⟨d+1,h1,by omega, ?_⟩
  have H:decide (((L++List.replicate d yS).length:Int)<(lv:Int))=true:=UU (by rw[I];omega)
  have hl:lG ((L++List.replicate d yS).length+1)=some ():=by unfold lG;rw[U4 (by rw[I];omega)]
  dsimp only
  rw[H,hl,<-E1,<-S6]
  rfl
 ·have r2:d=lv - L.length:=by omega
  have H:decide (((L++List.replicate d yS).length:Int)<(lv:Int))=false:=TZ (by rw[I];omega)
  refine .inr ⟨.inl (L++List.replicate d yS,N), ?_, ?_⟩
  ·dsimp only
   rw[H];rfl
  ·rw[r2];rfl
theorem R1 (h:EZ es=false):dU (nv es)=false:=by
 cases es with
 |nil=>rfl
 |cons e es=>
  unfold EZ at h
  unfold nv
  simp only at h⊢
  cases hs:fh e with
  |false=>simp;rfl
  |true=>rw[hs] at h;simpa using h
theorem R3 (h:EZ es=true):dU (nv es)=true/\nv es=n3 es:=by
 cases es with
 |nil=>simp[EZ] at h
 |cons e es=>
  unfold EZ at h
  simp only[SR] at h
  unfold nv n3
  simp only[h.1,TB]
  exact⟨h.2,trivial⟩
theorem KL {L:List PO} {R:List RO} (B:vH Rl L R) (hl:L.length=lv) (e:lv<=2) (ref:List UInt8) (i:Nat):DE ((i+1:Nat):Int) (L++[⟨true,ref,(i:Int),0,[]⟩]) (R++[⟨true,ref,if lv=2 then 1 else 0,[]⟩]):=by
 by_cases h:lv=2
 ·rw[U4 h]
  exact .top oM B ⟨rfl,rfl,by simp only;omega,by simp only;omega⟩
 ·rw[if_neg h]
  exact .low oT (B.app (.cons ⟨rfl,rfl,rfl,fun y=>by simp[uk]⟩ .nil))
theorem DG {P:List PO} {Q:List RO} {x:PO} {y:RO} (B:vH Rl P Q) (d:Rl x y) (hl:P.length+1=lv) (e:lv<=2) (ref:List UInt8) (i:Nat):DE ((i+1:Nat):Int) (P++[x]++[⟨true,ref,(i:Int),0,[]⟩]) (Q++[y]++[⟨true,ref,if lv=2 then 1 else 0,[]⟩]):=
 KL (B.app (.cons d .nil)) oT e ref i
theorem GB {i:Nat} {p:PA} {r:RA} {n:Nat} (hn:n<=2001) (t:MZ (i:Int) p r) (hB:yR n r) (s:aa) (lv:Nat) (e:lv<=2) (hE:zM s.fElements):
  ∃ o,eW p s (lv:Int) (i:Int)=some ((),o)/\MZ ((i+1:Nat):Int) o (kM s lv (i:Int) r):=by
 obtain⟨b1,b2,u⟩:=hB
 obtain⟨e1,e2⟩:=t
 have O:=e2.len
 have v:=DF p lv (i:Int) (by rw[e1];omega) oM
 have B:vH Rl (p.flevels.take lv) (bk lv (i:Int) r).flevels:=e2.take e
 have l:p.fnotes++List.replicate (p.flevels.length - lv) ⟨2,(i:Int)⟩=(bk lv (i:Int) r).fnotes:=by simp only[bk,e1,O]
 have g:(p.flevels.take lv).length<=lv:=by rw[Th];omega
 have F:(bk lv (i:Int) r).fnotes.length<=10 * n+3:=by simp only[bk,SS,Tn];omega
 have Z:∀ x∈(bk lv (i:Int) r).flevels,0<=x.fmany/\x.fmany<=100000/\x.frefs.length<=100000:=by
  intro x hx
  have:=u x (Tv hx)
  omega
 unfold eW tv;dsimp only
 rw[show(⟨p.flevels,p.fnotes⟩:PA)=p from rfl,v]
 simp only[SQ,Ng s hE,Ni s hE,QZ s hE]
 rw[l]
 unfold kM gb
 generalize p.flevels.take lv=L at B g
 generalize bk lv (i:Int) r=r1 at B F Z
 obtain⟨R,N⟩:=r1
 simp only at B F Z⊢
 have k:=B.len
 rcases Ty L.length lv with hc|hc
 have H:decide ((L.length:Int)<(lv:Int))=true:=UU oM
 rw[H,U4 oM,qZ _ 1 (i:Int) (by simp only;omega)]
 simp only[S4,SQ]
 have key:=fun K=>Pz lv L (N++[⟨1,(i:Int)⟩]) oM g K
 simp only[yS] at key
 simp only[Tw]
 rw[key]
 have b:(L++List.replicate (lv - L.length) (⟨false,[],0,0,[]⟩:PO)).length=lv:=by simp only[SS,Tn];omega
 have a:vH Rl (L++List.replicate (lv - L.length) (⟨false,[],0,0,[]⟩:PO)) (R++List.replicate (lv - R.length) B5):=by
  rw[<-k]
  exact B.app (vH.rep Q4 _)
 have k2:(N++[(⟨1,(i:Int)⟩:Nt)]).length<=10 * n+4:=by simp only[SS,ST,S3];omega
 have k3:∀ x∈R++List.replicate (lv - R.length) B5,0<=x.fmany/\x.fmany<=100000/\x.frefs.length<=100000:=by
  intro x hx
  rcases Te.1 hx with hx|hx
  ·exact Z x hx
  ·rw[List.eq_of_mem_replicate hx];simp[B5]
 generalize L++List.replicate (lv - L.length) (⟨false,[],0,0,[]⟩:PO)=q at b a
 generalize R++List.replicate (lv - R.length) B5=w at a k3
 generalize N++[(⟨1,(i:Int)⟩:Nt)]=j at k2
 cases hh:EP s
 have k5:(j++[(⟨6,(i:Int)⟩:Nt)]).length<=10 * n+5:=by simp only[SS,ST,S3];omega
 simp only[Tm,S4,iV,hh,Tb,Tq]
 rw[qZ _ 6 (i:Int) (by simp only;omega)]
 simp only[SQ,nu]
 generalize j++[(⟨6,(i:Int)⟩:Nt)]=h at k5
 rotate_left
 have k5:j.length<=10 * n+5:=by omega
 simp only[S9,S7,iV,hh,TB]
 generalize j=h at k5
 rotate_left
 have H:decide ((L.length:Int)<(lv:Int))=false:=TZ oM
 rw[H,if_neg oM]
 simp only[S7]
 have b:L.length=lv:=by omega
 have a:=B
 have k3:=Z
 generalize L=q at b a
 generalize R=w at a k3
 cases hh:EP s
 have k5:(N++[(⟨6,(i:Int)⟩:Nt)]).length<=10 * n+5:=by simp only[SS,ST,S3];omega
 simp only[Tm,S4,iV,hh,Tb,Tq]
 rw[qZ _ 6 (i:Int) (by simp only;omega)]
 simp only[SQ,nu]
 generalize N++[(⟨6,(i:Int)⟩:Nt)]=h at k5
 rotate_left
 have k5:N.length<=10 * n+5:=by omega
 simp only[S9,S7,iV,hh,TB]
 generalize N=h at k5
 all_goals
  rcases U0 lv with h0|h0
  ·subst h0
   have e3:q=[]:=Ta.1 b
   subst e3
   have U:w=[]:=by have:=a.len;cases w with
    |nil=>rfl
    |cons _ _=>simp at this
   subst U
   have d0:decide ((0:Int)<((0:Nat):Int))=false:=rfl
   have f:lG (([]:List PO).length+1)=some ():=rfl
   rw[d0]
   simp only[S7,ST,S3,Tx,mh]
   refine⟨_,rfl,⟨by rw[se], ?_⟩⟩
   rw[se]
   exact KL (lv:=0) vH.nil rfl oM _ i
  ·have d0:decide ((0:Int)<(lv:Int))=true:=UU oM
   rcases Uy q with e3|⟨P,x,e3⟩
   ·rw[e3] at b;simp at b;omega
   ·rw[Uz] at e3
    subst e3
    obtain⟨Q,y,rfl,c,d⟩:=a.snoc
    have G:P.length=lv - 1:=by simp at b;omega
    have hy:=k3 y oS
    have m:IntKind.i64.wrap ((lv:Int) - 1)=((P.length:Nat):Int):=by rw[bh _ oM oM];omega
    have I:b4 (P++[x]) ((P.length:Nat):Int)=some x:=by rw[aw];simp
    have J:∀ z:PO,(P++[x]).set P.length z=P++[z]:=fun z=>by simp
    have E:IntKind.i64.wrap (x.fmany+1)=x.fmany+1:=by have:=d.ma;exact bh _ oM oM
    have A:∀ z:PO,lG ((P++[z]).length+1)=some ():=fun z=>by unfold lG;rw[U4 oT]
    have C:∀ L,bC ⟨L,h⟩ 5 (i:Int)=some ((),⟨L,h++[⟨5,i⟩]⟩):=fun L=>qZ _ _ _ (by simp only;omega)
    simp only[d0,S4,m,I,SQ,Ue,J,E,cx,d.rs (n3 s.fElements),C,Tw,mh]
    rw[mw]
    cases ho:EZ s.fElements with
    |false=>
     have D:=R1 ho
     simp only[Vg,S7]
     simp only[A,SQ]
     refine⟨_,rfl,⟨by simp[DB,D], ?_⟩⟩
     refine DG (lv:=lv) c ?_ oM e _ i
     refine⟨d.kn,d.rf,by simp[km,d.ma], ?_⟩
     simp only[km,D,Tb,Tq]
     exact d.rs
    |true=>
     obtain⟨D,he⟩:=R3 ho
     by_cases Z:n3 s.fElements∈y.frefs
     ·simp only[T1,UU Z,S4]
      simp only[A,SQ]
      refine⟨_,rfl,⟨by simp[DB,he▸D,he,Z], ?_⟩⟩
      refine DG (lv:=lv) c ?_ oM e _ i
      refine⟨d.kn,d.rf,by simp[km,d.ma], ?_⟩
      simp only[km,D,TB]
      intro z
      rw[d.rs z,he]
      by_cases hz:z=n3 s.fElements
      ·subst hz;simp[Z]
      ·simp[hz]
     ·simp only[T1,TZ Z,S7,S4]
      simp only[A,SQ]
      refine⟨_,rfl,⟨by simp[DB,he▸D,he,Z], ?_⟩⟩
      refine DG (lv:=lv) c ?_ oM e _ i
      refine⟨d.kn,d.rf,by simp[km,d.ma], ?_⟩
      simp only[km,D,TB]
      intro z
      rw[E3,he]
      by_cases hz:z=n3 s.fElements
      ·subst hz;simp
      ·simp[hz,d.rs z]
theorem KA {s:aa} {lv:Nat} {i:Int} {a:RA} {x:RO} (h:lv<a.flevels.length) (hx:a.flevels[lv]?=some x):
  lp s lv i a=⟨a.flevels.take lv,(bk (lv+1) i a).fnotes++(if s.fElements.all fh=true then KG (s.fElements.map firstT) lv i x else[⟨6,i⟩])⟩:=by
 unfold lp
 rw[if_neg oM,hx]
theorem Gz {i:Nat} {p:PA} {r:RA} {n:Nat} (hi:i<=2001) (hn:n<=2001) (t:MZ (i:Int) p r) (hB:yR n r) (s:aa) (lv:Nat) (e:lv<=2) (hE:zM s.fElements):
  ∃ o,eX p s (lv:Int) (i:Int)=some ((),o)/\MZ ((i+1:Nat):Int) o (lp s lv (i:Int) r):=by
 obtain⟨b1,b2,u⟩:=hB
 obtain⟨e1,e2⟩:=t
 have O:=e2.len
 have hl:=uT hE
 have ht:=vM s.fTag hE
 unfold eX tw;dsimp only
 rcases Ty lv r.flevels.length with h1|h1
 ·have H:decide ((p.flevels.length:Int)<=(lv:Int))=false:=TZ oM
  have m:IntKind.i64.wrap ((lv:Int)+1)=((lv+1:Nat):Int):=bB lv oM
  have v:=DF p (lv+1) (i:Int) (by rw[e1];omega) oM
  obtain⟨x,hx⟩:=eF (show lv<p.flevels.length by omega)
  obtain⟨y,hy⟩:=eF h1
  have Y:p.flevels.take (lv+1)=p.flevels.take lv++[x]:=nW hx
  have J:(p.flevels.take lv).length=lv:=by rw[Th];omega
  have B:vH Rl (p.flevels.take lv) (r.flevels.take lv):=e2.take e
  have l:p.fnotes++List.replicate (p.flevels.length - (lv+1)) ⟨2,(i:Int)⟩=(bk (lv+1) (i:Int) r).fnotes:=by simp only[bk,e1,O]
  have F:(bk (lv+1) (i:Int) r).fnotes.length<=10 * n+3:=by simp only[bk,SS,Tn];omega
  have d:x.fknown=y.fheaded/\x.fref=y.fref/\(lv≠2->x.fmany=y.fmany)/\(lv=2->IntKind.i64.wrap (IntKind.i64.wrap ((i:Int) - x.fat)+1)=y.fmany+1):=by
   have C:=u y (SW hy)
   generalize w:p.flevels=pl at e2 hx
   generalize A:r.flevels=rl at e2 hy
   cases e2 with
   |low h0 h=>
    obtain⟨z,hz,hq⟩:=h.get hx
    have:z=y:=by rw[hy] at hz;exact(Uq hz).symm
    subst this
    refine⟨hq.kn,hq.rf,fun _=>hq.ma,fun h2=> ?_⟩
    have:=SY.1 hx
    obtain⟨h5,_⟩:=this
    omega
   | @top D G x' y' h0 h hq=>
    rcases Ty lv 2 with h2|h2
    ·rw[TP oM] at hx
     rw[TP (by rw[<-h.len];omega)] at hy
     obtain⟨z,hz,hq⟩:=h.get hx
     have:z=y:=by rw[hy] at hz;exact(Uq hz).symm
     subst this
     exact⟨hq.kn,hq.rf,fun _=>hq.ma,fun h2=>by omega⟩
    ·have E:lv=2:=by omega
     subst E
     rw[Tr oM,h0] at hx
     rw[Tr (by rw[<-h.len];omega),<-h.len,h0] at hy
     simp at hx hy
     subst hx hy
     refine⟨hq.kn,hq.rf,fun g=>absurd rfl g,fun _=> ?_⟩
     have:=hq.ma
     have:=hq.at0
     rw[bh ((i:Int) - x'.fat) oM oM,bh _ oM oM]
     omega
  have r8:jv s=some (Ps s.fElements):=ht
  rw[KA h1 hy,H,show(⟨p.flevels,p.fnotes⟩:PA)=p from rfl,m,v,Y,l]
  simp only[S7,SQ,r8,HU]
  have c:∀ N,MZ ((i+1:Nat):Int) (⟨p.flevels.take lv,N⟩:PA) (⟨r.flevels.take lv,N⟩:RA):=fun N=>⟨rfl,.low (by rw[J];exact e) B⟩
  generalize(bk (lv+1) (i:Int) r).fnotes=N at F
  generalize p.flevels.take lv=P at J c
  have g1:b4 (P++[x]) (lv:Int)=some x:=by rw[aw,<-J];simp
  have g3:cz (P++[x]) 0 (lv:Int)=some P:=by rw[tR _ _ oT,<-J];simp
  have S:∀ L k,bC ⟨L,N⟩ k (i:Int)=some ((),⟨L,N++[⟨k,i⟩]⟩):=fun L k=>qZ _ _ _ (by simp only;omega)
  have V:∀ L k j,bC ⟨L,N++[⟨j,i⟩]⟩ k (i:Int)=some ((),⟨L,N++[⟨j,i⟩]++[⟨k,i⟩]⟩):=fun L k j=>qZ _ _ _ (by simp only[SS,ST,S3];omega)
  have I:IntKind.i64.wrap ((([fy,lm,kl]:List (List UInt8)).length:Int) - 1)=2:=by
   rw[show((([fy,lm,kl]:List (List UInt8)).length:Int) - 1)=2 from rfl,bh _ oM oM]
  have d2:decide ((lv:Int)=2)=decide (lv=2):=by
   by_cases h:lv=2
   ·rw[UU h,UU oM]
   ·rw[TZ h,TZ oM]
  simp only[g1,g3,SQ,I,d2,S]
  unfold Ps
  cases hs:s.fElements.all fh with
  |false=>
   simp only[Tb,Tq,Tm,HQ,SQ,S4]
   exact⟨_,rfl,c _⟩
  |true=>
   simp only[TB,S9,E0,SQ]
   generalize s.fElements.map firstT=ts at hl
   match ts with
   |[]=>exact⟨_,rfl,c _⟩
   |[q1]=>exact⟨_,rfl,c _⟩
   |q1::W::q3::ts=>
    have q:decide (((q1::W::q3::ts).length:Int)=2)=false:=by simp only[ST,Tk];omega
    simp only[q,Tm,HQ,SQ,S4]
    exact⟨_,rfl,c _⟩
   |[a,b]=>
    have q:decide ((([a,b]:List (List UInt8)).length:Int)=2)=true:=rfl
    have e0:b4 [a,b] 0=some a:=rfl
    have R:b4 [a,b] 1=some b:=rfl
    have f:lZ a 9=some (if fB a=true then kj a else 0,fB a):=by
     rw[OY a (hl a oS)]
     cases h:fB a with
     |true=>simp
     |false=>simp
    simp only[q,S9,E0,e0,R,SQ,qR b (hl b oS),f,KG]
    cases hb:dU b with
    |false=>
     simp only[Tm,S4,Tb,and_false,Tq]
     exact⟨_,rfl,c _⟩
    |true=>
     simp only[S9,S7]
     cases ha:fB a with
     |false=>
      simp only[Tm,S4,Tb,false_and,Tq]
      exact⟨_,rfl,c _⟩
     |true=>
      simp only[S9,S7,TB,and_self]
      cases hk:x.fknown with
      |false=>
       rw[<-d.1,hk]
       simp only[Tm,S4,Tb,Tq,Tg]
       exact⟨_,rfl,c _⟩
      |true=>
       rw[<-d.1,hk,<-d.2.1]
       simp only[S9,S7,TB]
       by_cases h2:lv=2
       ·rw[UU h2,U4 h2,d.2.2.2 h2]
        simp only[S4]
        by_cases E:kj a=y.fmany+1<;>by_cases h4:b=x.fref<;>simp only[E,h4,TA,UO,S9,Tm,S4,S7,TB,Tq,V,SQ,Tg,S8]
        ·exact⟨_,rfl,c _⟩
        ·exact⟨_,rfl,c _⟩
        ·exact⟨_,rfl,c _⟩
        ·exact⟨_,rfl,by rw[<-S6];exact c _⟩
       ·rw[TZ h2,if_neg h2,<-d.2.2.1 h2]
        simp only[S7,Int.add_zero]
        by_cases E:kj a=x.fmany<;>by_cases h4:b=x.fref<;>simp only[E,h4,TA,UO,S9,Tm,S4,S7,TB,Tq,V,SQ,Tg,S8]
        ·exact⟨_,rfl,c _⟩
        ·exact⟨_,rfl,c _⟩
        ·exact⟨_,rfl,c _⟩
        ·exact⟨_,rfl,by rw[<-S6];exact c _⟩
 ·have H:decide ((p.flevels.length:Int)<=(lv:Int))=true:=UU oM
  have ht:lp s lv (i:Int) r=nu r 1 i:=by unfold lp;rw[U4 h1]
  rw[H,ht,qZ _ 1 (i:Int) (by simp only;rw[e1];omega)]
  refine⟨_,rfl,⟨by simp only[nu,e1], ?_⟩⟩
  have E:=e2.take (n:=2) oM
  rw[Tt oM,Tt oM] at E
  exact .low (by simp only;omega) E
variable {a:RA} {k:Int} {lv:Nat} {s:aa}
def QN (x:Nt):Prop:=0<=x.fSegment/\x.fSegment<=2000/\0<=x.fKind/\x.fKind<=7
def uU (a:RA):Prop:=∀ x∈a.fnotes,QN x
theorem Cz {N M:List Nt} (h:∀ x∈N,QN x) (g:∀ x∈M,QN x):∀ x∈N++M,QN x:=fun x hx=>(Te.1 hx).elim (h x) (g x)
theorem zO {i:Int} (h1:0<=k) (h2:k<=7) (E:0<=i) (h4:i<=2000):∀ x∈[(⟨k,i⟩:Nt)],QN x:=fun x hx=>by rw[Tj.1 hx];exact⟨E,h4,h1,h2⟩
theorem KB:∀ x∈([]:List Nt),QN x:=fun x hx=>by cases hx
section
variable {i:Int} (E:0<=i) (h4:i<=2000)
include E h4
theorem DA {c:Nat} (h:uU a):uU (bk c i a):=Cz h (fun x hx=>by rw[List.eq_of_mem_replicate hx];exact⟨E,h4,by simp,by simp⟩)
theorem GA (h1:0<=k) (h2:k<=7) (h:uU a):uU (nu a k i):=Cz h (zO h1 h2 E h4)
theorem Pu (h:uU a):uU (kM s lv i a):=by
 have h5:=DA E h4 (c:=lv) h
 have h6:uU (gb lv i (bk lv i a)):=by
  unfold gb
  split
  ·exact Cz h5 (zO oS oS E h4)
  ·exact h5
 have h7:uU (iV s i (gb lv i (bk lv i a))):=by
  unfold iV
  split
  ·exact h6
  ·exact GA E h4 oS oS h6
 unfold kM
 simp only[uU]
 generalize iV s i (gb lv i (bk lv i a))=b at h7
 unfold qY
 split
 ·exact h7
 ·refine Cz h7 ?_
  unfold DB
  split
  ·exact zO oS oS E h4
  ·exact KB
theorem Q0 {ts:List (List UInt8)} {lv:Nat} {x:RO}:∀ y∈KG ts lv i x,QN y:=by
 have q:∀ (c:Prop) [Decidable c] (k:Int),0<=k->k<=7->∀ x∈(if c then([]:List Nt) else[⟨k,i⟩]),QN x:=fun c _ k a b=>by
  split
  ·exact KB
  ·exact zO a b E h4
 unfold KG
 split
 ·split
  ·split
   ·exact Cz (q _ 3 oD oD) (q _ 4 oD oD)
   ·exact KB
  ·exact zO oS oS E h4
 ·exact zO oS oS E h4
theorem Pv (h:uU a):uU (lp s lv i a):=by
 unfold lp
 split
 ·exact GA E h4 oS oS h
 ·split
  ·exact h
  ·refine Cz (DA E h4 h) ?_
   split
   ·exact Q0 E h4
   ·exact zO oS oS E h4
theorem Pw (h:uU a):uU (cM s i a):=by
 unfold cM
 split
 ·exact Pu E h4 h
 ·split
  ·exact Pv E h4 h
  ·split
   ·exact GA E h4 oS oS h
   ·unfold CC
    split
    ·exact h
    ·exact h
end
theorem OZ:∀ (l:List aa) (i:Nat) (a:RA),i+l.length<=2000->uU a->uU (gc l i a)
 |[],i,a,_,h=>h
 |s::l,i,a,hl,h=>OZ l (i+1) _ (by simp at hl;omega) (Pw oM (by simp at hl;omega) h)
theorem O0 {l:List aa} (hl:l.length<=2000):∀ x∈xd l,QN x:=DA oM oM (OZ l 0 _ oM (fun x hx=>by cases hx))
theorem Q1:IJ QN l0 I0:=by
 rintro⟨k1,p⟩ ⟨k2,s2⟩ ⟨M,a2,a3,a4⟩ ⟨b1,b2,u,k⟩
 simp only at M a2 a3 a4 b1 b2 u k
 unfold l0 ji;dsimp only
 unfold I0
 simp only
 by_cases h:p=s2
 ·rw[UU h]
  refine⟨_,rfl, ?_⟩
  rw[bh _ oM oM,TV]
  simp;omega
 ·rw[TZ h]
  refine⟨_,rfl, ?_⟩
  rw[bh _ oM oM,TV]
  simp;omega
theorem Nh {i:Nat} {p:PA} {r:RA} {x:RO} (t:MZ (i:Int) p r) (E:¬ r.flevels.length<3):MZ ((i+1:Nat):Int) p (CC r):=by
 obtain⟨pl,a⟩:=p
 obtain⟨rl,b⟩:=r
 obtain⟨e1,e2⟩:=t
 simp only at e1 e2 E
 cases e2 with
 |low h0 h=>have:=h.len;omega
 | @top P R x' y' h0 h hq=>
  have hl:=h.len
  have hg:(R++[y'])[2]?=some y':=by rw[Tr oM,<-hl,h0];rfl
  have hs:∀ z:RO,(R++[y']).set 2 z=R++[z]:=fun z=>by rw[T3 _ _ oM,<-hl,h0];rfl
  unfold CC
  simp only[hg,hs]
  refine⟨e1,.top h0 h ⟨hq.kn,hq.rf, ?_,hq.at0⟩⟩
  have:=hq.ma
  simp only
  omega
theorem vN (l:List aa) (h:Py l):∃ W,ry l=some W/\mT I0 W/\SP I0 (xd l) W:=by
 have hB:∀ i,i<=l.length->yR i (gc (l.take i) 0 ⟨[],[]⟩):=fun i hi=>by
  have:=HR (l.take i) 0 _ SJ
  rwa[Th,Tx,UR hi] at this
 have I:=h.1
 unfold ry tx;dsimp only
 refine wT (X:=PA×Nat) (C:=fun W=>mT I0 W/\SP I0 (xd l) W) (fun x=>(x.1.flevels,x.1.fnotes,(x.2:Int))) (fun x=>l.length - x.2) (fun x=>x.2<=l.length/\MZ (x.2:Int) x.1 (gc (l.take x.2) 0 ⟨[],[]⟩)) ?_ (⟨[],[]⟩,0) ⟨TK _,rfl,.low oS .nil⟩
 rintro⟨p,i⟩ ⟨hi,t⟩
 simp only at hi t⊢
 have hb:=hB i hi
 rcases Ty i l.length with h1|h1
 ·left
  obtain⟨s,hs⟩:=eF h1
  have hE:=h.2 s (SW hs)
  have w:IntKind.i64.wrap ((i:Int)+1)=((i+1:Nat):Int):=bB i oM
  have D:gc (l.take (i+1)) 0 ⟨[],[]⟩=cM s (i:Int) (gc (l.take i) 0 ⟨[],[]⟩):=by
   rw[nW hs,CD,Th,Tx,UR hi]
  have b:∀ o,MZ ((i+1:Nat):Int) o (cM s (i:Int) (gc (l.take i) 0 ⟨[],[]⟩))->∀ m,m=some (Sum.inl (o.flevels,o.fnotes,((i+1:Nat):Int)))->
    ∃ y:PA×Nat,(y.2<=l.length/\MZ (y.2:Int) y.1 (gc (l.take y.2) 0 ⟨[],[]⟩))/\l.length - y.2<l.length - i/\m=some (Sum.inl (y.1.flevels,y.1.fnotes,(y.2:Int)):(List PO×List Nt×Int)⊕((List PO×List Nt×Int)⊕List Nt)):=by
   intro o Y m Z
   exact⟨(o,i+1),⟨h1,by rw[D];exact Y⟩,by simp only;omega,Z⟩
  generalize gc (l.take i) 0 ⟨[],[]⟩=a at hb t b
  obtain⟨b1,b2,u⟩:=id hb
  simp only[br h1,S4,aw,hs,SQ,HU,Nl,Q3,w]
  have e:cM s (i:Int) a=_:=rfl
  unfold cM at b
  by_cases j:s.fTag=fy
  ·obtain⟨o,k1,k2⟩:=GB oM t hb s 0 oM hE
   refine b o ?_ _ ?_
   ·rw[U4 (by rw[j];rfl),j];exact k2
   ·rw[U4 j]
    have d:decide ((0:Int)<=0)=true:=rfl
    simp only[d,S4]
    rw[show(⟨p.flevels,p.fnotes⟩:PA)=p from rfl,show(0:Int)=((0:Nat):Int) from rfl,k1]
    rfl
  rw[if_neg j]
  by_cases t2:s.fTag=lm
  ·obtain⟨o,k1,k2⟩:=GB oM t hb s 1 oM hE
   refine b o ?_ _ ?_
   ·rw[U4 (by rw[t2];rfl),t2];exact k2
   ·rw[U4 t2]
    have d:decide ((0:Int)<=1)=true:=rfl
    simp only[d,S4]
    rw[show(⟨p.flevels,p.fnotes⟩:PA)=p from rfl,show(1:Int)=((1:Nat):Int) from rfl,k1]
    rfl
  rw[if_neg t2]
  by_cases t3:s.fTag=kl
  ·obtain⟨o,k1,k2⟩:=GB oM t hb s 2 oM hE
   refine b o ?_ _ ?_
   ·rw[U4 (by rw[t3];rfl),t3];exact k2
   ·rw[U4 t3]
    have d:decide ((0:Int)<=2)=true:=rfl
    simp only[d,S4]
    rw[show(⟨p.flevels,p.fnotes⟩:PA)=p from rfl,show(2:Int)=((2:Nat):Int) from rfl,k1]
    rfl
  rw[if_neg t3]
  have hh:fN s.fTag=false:=by unfold fN;simp[j,t2,t3]
  rw[if_neg (by rw[hh];decide)] at b
  have q:decide ((0:Int)<= -1)=false:=rfl
  simp only[q,S7]
  by_cases t4:s.fTag=uh
  ·obtain⟨o,k1,k2⟩:=Gz oM oM t hb s 0 oM hE
   refine b o ?_ _ ?_
   ·rw[U4 (by rw[t4];decide),t4];exact k2
   ·rw[U4 t4]
    have d:decide ((0:Int)<=0)=true:=rfl
    simp only[d,S4]
    rw[show(⟨p.flevels,p.fnotes⟩:PA)=p from rfl,show(0:Int)=((0:Nat):Int) from rfl,k1]
    rfl
  rw[if_neg t4]
  by_cases t5:s.fTag=yQ
  ·obtain⟨o,k1,k2⟩:=Gz oM oM t hb s 1 oM hE
   refine b o ?_ _ ?_
   ·rw[U4 (by rw[t5];decide),t5];exact k2
   ·rw[U4 t5]
    have d:decide ((0:Int)<=1)=true:=rfl
    simp only[d,S4]
    rw[show(⟨p.flevels,p.fnotes⟩:PA)=p from rfl,show(1:Int)=((1:Nat):Int) from rfl,k1]
    rfl
  rw[if_neg t5]
  by_cases g:s.fTag=xg
  ·obtain⟨o,k1,k2⟩:=Gz oM oM t hb s 2 oM hE
   refine b o ?_ _ ?_
   ·rw[U4 (by rw[g];decide),g];exact k2
   ·rw[U4 g]
    have d:decide ((0:Int)<=2)=true:=rfl
    simp only[d,S4]
    rw[show(⟨p.flevels,p.fnotes⟩:PA)=p from rfl,show(2:Int)=((2:Nat):Int) from rfl,k1]
    rfl
  rw[if_neg g]
  simp only[q,S7]
  have hz:cK s.fTag=0:=by unfold cK;simp[j,t2,t3,t4,t5,g]
  rw[if_neg oM] at b
  have O:=t.lv.len
  by_cases E:a.flevels.length<3
  ·rw[U4 E] at b
   have d:decide ((p.flevels.length:Int)<(([fy,lm,kl]:List (List UInt8)).length:Int))=true:=UU (by simp only[ST,S3];omega)
   refine b ⟨p.flevels,p.fnotes++[⟨7,i⟩]⟩ ⟨by simp only[nu,t.nt], ?_⟩ _ ?_
   ·have h5:=t.lv.take (n:=2) oM
    rw[Tt oM,Tt oM] at h5
    exact .low (by simp only;omega) h5
   ·rw[d,qZ _ 7 (i:Int) (by simp only;rw[t.nt];omega)]
    rfl
  ·rw[if_neg E] at b
   have d:decide ((p.flevels.length:Int)<(([fy,lm,kl]:List (List UInt8)).length:Int))=false:=TZ (by simp only[ST,S3];omega)
   refine b p (Nh (x:=B5) t E) _ ?_
   rw[d];rfl
 ·right
  have:i=l.length:=by omega
  subst this
  rw[UJ] at hb t
  obtain⟨b1,b2,u⟩:=hb
  have O:=t.lv.len
  have v:=DF p 0 ((l.length:Nat):Int) (by rw[t.nt];omega) oM
  have F:p.fnotes++List.replicate (p.flevels.length - 0) ⟨2,((l.length:Nat):Int)⟩=xd l:=by simp only[xd,bk,t.nt,O]
  have k:(xd l).length<=137438953472:=by simp only[xd,bk,SS,Tn];omega
  refine⟨.inl (p.flevels,p.fnotes,((l.length:Nat):Int)), ?_⟩
  simp only[aB,S7]
  simp only[c3]
  rw[show(⟨p.flevels,p.fnotes⟩:PA)=p from rfl,show(0:Int)=((0:Nat):Int) from rfl,v,F]
  simp only[SQ]
  obtain⟨W,g1,g2,g3⟩:=Cy (f:=56) (c:=[]) (p:=l0) (by intro a0 M r D;exact pc a0 M r D) Q2 Q1 (xd l) (O0 I) k
  exact⟨W,rfl,by rw[g1];rfl,g2,g3⟩
variable {t:List UInt8} {y:Ix}
def Si:Ix:=⟨[],[],[],0,0,false,[]⟩
abbrev QR:=Ix×ab×Bool×Int×Int
def BQ (i e:Int):QR:=(Si,IC,false,i,e)
def QS (m:ab) (p:Bool) (x:List aa) (k:Nat):Int:=((iL m p (x.take k)).length:Int)+8
def Cr (b:bt) (m:ab) (i:Int):Prop:=mq b=(m,i,0)/\b.length<=500000
inductive J6 (b:bt):QR->Prop
 |head {m:ab} {i e:Int} (h:mq b=(m,i,e)) (he:e≠0):J6 b (BQ i e)
 |big {m:ab} {i:Int} (h:mq b=(m,i,0)) (hl:500000<b.length):J6 b (BQ 0 2)
 |syn {m:ab} {i:Int} {q:bt} (h:Cr b m i) (hc:n8 m [] false (b.drop 8) (.inl q)):J6 b (BQ ((((b.drop 8).length - q.length:Nat):Int)+8) 10)
 |seg {m:ab} {i:Int} {x:List aa} {p:Bool} (h:Cr b m i) (hc:n8 m [] false (b.drop 8) (.inr (x,p))) (hs:et x≠0):J6 b (BQ (if et x=10 then 8 else 0) (et x))
 |note {m:ab} {i:Int} {x:List aa} {p:Bool} {n:Nt} {N:List Nt} (h:Cr b m i) (hc:n8 m [] false (b.drop 8) (.inr (x,p))) (hs:et x=0) (hW:mT I0 (n::N)) (hP:SP I0 (xd x) (n::N)):J6 b (BQ (QS m p x n.fSegment.toNat) 3)
 |nil {m:ab} {i:Int} {p:Bool} (h:Cr b m i) (hc:n8 m [] false (b.drop 8) (.inr ([],p))):J6 b (BQ 0 9)
 |ihd {m:ab} {i:Int} {x:List aa} {p:Bool} {k:Nat} {s:aa} (h:Cr b m i) (hc:n8 m [] false (b.drop 8) (.inr (x,p))) (hs:et x=0) (hq:xd x=[]) (hk:x[k+1]?=some s) (ht:s.fTag=fy) (hj:∀ j s,j<k->x[j+1]?=some s->s.fTag≠fy):J6 b (BQ (QS m p x (k+1)) 3)
 |fin {m:ab} {i:Int} {y:Ix} {p:Bool} (h:Cr b m i) (hc:n8 m [] false (b.drop 8) (.inr (ki y,p))) (hs:et (ki y)=0) (hq:xd (ki y)=[]) (hj:∀ j s,(ki y)[j+1]?=some s->s.fTag≠fy) (hE:M8 y):J6 b (if Iy y=0 then(y,m,p,0,0) else BQ 0 (Iy y))
theorem ME (b:bt):∃ z,J6 b z:=by
 obtain⟨⟨m,i,e⟩,D⟩:∃ z,mq b=z:=⟨_,rfl⟩
 by_cases he:e=0
 ·subst he
  by_cases hl:500000<b.length
  ·exact⟨_,.big D hl⟩
  ·have h:Cr b m i:=⟨D,by omega⟩
   obtain⟨res,hc⟩:=Ja m (b.drop 8).length (b.drop 8) (SZ _) [] false
   cases res with
   |inl q=>exact⟨_,.syn h hc⟩
   |inr a=>
    obtain⟨x,p⟩:=a
    by_cases hs:et x=0
    ·obtain⟨W,_,f,I⟩:=vN x (CE hs)
     cases W with
     |cons n N=>exact⟨_,.note h hc hs f I⟩
     |nil=>
      have hq:xd x=[]:=Ta.1 (by rw[I.1.length_eq];rfl)
      by_cases hx:x=[]
      ·subst hx;exact⟨_,.nil h hc⟩
      ·by_cases hi:∀ j s,x[j+1]?=some s->s.fTag≠fy
       ·obtain⟨y,rfl,hE⟩:=Ks hq hx (fun s hs=>by
         obtain⟨j,hj,rfl⟩:=TM.1 hs
         rw[List.getElem_drop]
         rw[TQ] at hj
         exact hi j _ (by rw[Nat.add_comm j 1];exact S0 oM))
        exact⟨_,.fin h hc hs hq hi hE⟩
       ·have:∃ k,(∃ s,x[k+1]?=some s/\s.fTag=fy)/\∀ j,j<k->¬ ∃ s,x[j+1]?=some s/\s.fTag=fy:=by
         have h0:∃ k s,x[k+1]?=some s/\s.fTag=fy:=Classical.byContradiction fun g=>hi fun j s hj ht=>g ⟨j,s,hj,ht⟩
         obtain⟨k,hk⟩:=h0
         induction k using Nat.strongRecOn with
         |_ k ih=>
          by_cases hj:∃ j,j<k/\∃ s,x[j+1]?=some s/\s.fTag=fy
          ·obtain⟨j,h1,h2⟩:=hj;exact ih j h1 h2
          ·exact⟨k,hk,fun j h1 h2=>hj ⟨j,h1,h2⟩⟩
        obtain⟨k,⟨s,hk,ht⟩,hj⟩:=this
        exact⟨_,.ihd h hc hs hq hk ht (fun j s' h1 h2 E=>hj j h1 ⟨s',h2,E⟩)⟩
    ·exact⟨_,.seg h hc hs⟩
 ·exact⟨_,.head D he⟩
theorem J7 (h:dU t=true):t.length<=14:=by
 unfold dU at h
 simp only[SR,S5] at h
 exact h.1.2
theorem J8 (h:cH t=true):t.length<=1000:=by
 cases t with
 |nil=>simp
 |cons b l=>
  unfold cH at h
  simp only[SR,S5] at h
  simp only[ST]
  omega
theorem Gm {α β:Type} {f:α->List β} {l:List α} {e:α} (h:e∈l):(f e).length<=(l.flatMap f).length:=by
 obtain⟨i,hi,rfl⟩:=TM.1 h
 exact tU (S0 hi)
theorem EL (h:M8 y) (hs:et (ki y)=0):JT y/\Oc y:=by
 obtain⟨hl,ha⟩:=oG hs
 have L:=jk y
 have hg:=wL (x:=y)
 have rf:∀ {t:List UInt8},dU t=true->t.length<=MX:=fun h=>TW (J7 h) (by unfold MX;omega)
 have a:∀ {t:List UInt8},cH t=true->t.length<=MX:=fun h=>TW (J8 h) (by unfold MX;omega)
 have hd:=h.day
 have c:=h.sec
 refine⟨⟨rf h.ref,a h.snd,a h.rcv,by omega,fun g d=> ?_⟩,⟨⟨by omega,by omega⟩,⟨by omega,by omega⟩,by omega⟩⟩
 obtain⟨M,a2,a3⟩:=h.grp g d
 have b:=Gm (f:=Br) d
 have j:=wK (g:=g)
 have e1:=kK g
 refine⟨rf M,a a2,by omega,fun m Z=> ?_⟩
 obtain⟨b1,b2,u,k⟩:=a3 m Z
 have e:=Gm (f:=Co) Z
 have e2:=kJ m
 refine⟨rf b1,a b2,a u,by omega,fun s hs=> ?_⟩
 have:s∈ki y:=by
  unfold ki
  refine To _ (TT _ (Ut.2 ⟨g,d, ?_⟩))
  unfold Br
  refine To _ (TT _ (Ut.2 ⟨m,Z, ?_⟩))
  unfold Co
  exact To _ (TT _ hs)
 have:=(wX (ha s this)).2.1
 omega
theorem BR (h:M8 y):(fB (Lib.itoa y.fDay)=true/\kj (Lib.itoa y.fDay)=y.fDay)/\(fB (Lib.itoa y.fSecond)=true/\kj (Lib.itoa y.fSecond)=y.fSecond)/\∀ g∈y.fGroups,∀ m∈g.fMessages,∀ s∈m.fSegments,cK s.fTag=0:=by
 have hd:=h.day
 have c:=h.sec
 obtain⟨H,d2,_⟩:=n1 (t:=y.fDay) oM oM
 obtain⟨p,s2,_⟩:=n1 (t:=y.fSecond) oM oM
 exact⟨⟨H,d2⟩,⟨p,s2⟩,fun g hg m Z=>((h.grp g hg).2.2 m Z).2.2.2⟩
theorem RD (h:M8 y) (hs:et (ki y)=0):gS (ki y)=some y:=Sk rfl (CE hs) (BR h).1 (BR h).2.1 (BR h).2.2
structure lu (m:ab):Prop where
 bE:eG m.fElement=true
 bN:eG m.fEnd=true
 pR:m.fPart≠m.fRepeat
 eN:m.fElement≠m.fEnd
 eP:m.fElement≠m.fPart
 eR:m.fElement≠m.fRepeat
 nP:m.fEnd≠m.fPart
 nR:m.fEnd≠m.fRepeat
 esc:∀ y,y=m.fElement\/y=m.fPart\/y=m.fRepeat\/y=m.fEnd->rW m y=false
variable {m:ab} {p:List bt} {q:bt} {y:UInt8}
theorem vP (h:eq m=0):lu m:=by
 unfold eq at h
 split at h
 ·cases h
 ·rename_i hb
  split at h
  ·cases h
  ·rename_i ht
   have U:∀ a b:UInt8,vI a b=false->b≠a:=fun a b h e=>by
    have:=(lw a b).2 e.symm
    rw[h] at this;cases this
   unfold Hz at hb
   unfold Dt at ht
   simp only[TE,not_or,Uh,Bool.not_eq_eq_eq_not,S9,Tm] at hb ht
   obtain⟨⟨⟨⟨b1,b2⟩,u⟩,k⟩,c⟩:=hb
   obtain⟨⟨⟨⟨⟨⟨⟨⟨⟨j,t2⟩,t3⟩,t4⟩,t5⟩,g⟩,f⟩,i⟩,t9⟩,d⟩:=ht
   refine⟨by simpa using b1,by simpa using k,(U _ _ t3),U _ _ t4,U _ _ j,U _ _ t2,(U _ _ t5).symm,(U _ _ g).symm,fun y hy=> ?_⟩
   cases he:rW m y with
   |false=>rfl
   |true=>
    have h2:=((zR m y).1 he).2
    rcases hy with h|h|h|h
    ·exact absurd (h.symm.trans h2) (U _ _ f)
    ·exact absurd (h.symm.trans h2) (U _ _ i)
    ·exact absurd (h.symm.trans h2) (U _ _ t9)
    ·exact absurd (h2.symm.trans h) (U _ _ d).symm
theorem E6 (h:y=m.fElement\/y=m.fPart\/y=m.fRepeat\/y=m.fEnd):ud m y=true:=by
 unfold ud
 rcases h with rfl|rfl|rfl|rfl<;>simp
theorem KO {t:bt} (h:kd t=0):∀ x∈t,E_ x=false:=by
 unfold kd at h
 split at h
 ·cases h
 ·intro x hx
  cases ho:E_ x with
  |false=>rfl
  |true=>
   exfalso
   have hb:wU x=true:=ho
   have:(t.findSome? (fun x=>if wU x=true then some (3:Int) else none)).isSome=true:=by
    rw[List.findSome?_isSome_iff]
    exact⟨x,hx,by simp[hb]⟩
   obtain⟨a,ha⟩:=T0.1 this
   rw[ha] at h
   obtain⟨y,_,hy⟩:=List.exists_of_findSome?_eq_some ha
   split at hy
   ·cases hy;cases h
   ·cases hy
theorem GG {m:ab} {y:UInt8} {q:bt} (hy:ud m y=true) (a:rW m y=false):∀ (t:bt),(∀ x∈t,E_ x=false)->zQ m t->cQ m (qP m t++y::q)= .inr (t,y::q)
 |[],_,_=>by
  show cQ m (y::q)=_
  rw[q2]
  simp[a,hy]
 |x::t,ho,hc=>by
  have f:zQ m t:=by
   unfold zQ at hc⊢
   rcases hc with h|h
   ·exact .inl h
   ·rw[xi] at h;exact .inr oM
  have ih:=GG hy a (q:=q) t (fun x hx=>ho x (To _ hx)) f
  rw[xh]
  by_cases hx:ud m x=true
  ·have hz:m.fEscape.toNat≠0:=by
    rcases hc with h|h
    ·exact h
    ·rw[xi,U4 hx] at h;omega
   rw[U4 ⟨hx,hz⟩]
   show cQ m (m.fEscape::x::(qP m t++y::q))=_
   rw[q2]
   have he:rW m m.fEscape=true:=(zR m _).2 ⟨hz,rfl⟩
   simp only[he,TB,hx,ih]
  ·rw[if_neg fun h=>hx h.1]
   show cQ m (x::(qP m t++y::q))=_
   rw[q2]
   have he:rW m x=false:=by
    cases h:rW m x with
    |false=>rfl
    |true=>exact absurd (KN h) hx
   have h0:=ho x oS
   simp only[he,hx,h0,Tb,Tq,ih]
abbrev KP:=List (UInt8×bt)
def sx (m:ab) (l:KP):bt:=l.flatMap fun k=>n6 m k.1 k.2
def mz (m:ab) (xs:List (List bt)) (l:KP):List (List bt):=l.foldl (fun xs k=>la m k.1 xs k.2) xs
def zT (m:ab) (t:bt):Prop:=(∀ x∈t,E_ x=false)/\zQ m t
theorem Q7 {m:ab} (Z:lu m) {y:UInt8} {q:bt} (hy:y=m.fElement\/y=m.fEnd):∀ (l:KP) (k:UInt8) (xs:List (List bt)) (t:bt),zT m t->(∀ z∈l,(z.1=m.fRepeat\/z.1=m.fPart)/\zT m z.2)->
  Fb m k xs (qP m t++(sx m l++y::q)) (.inr (mz m xs ((k,t)::l),y::q))
 |[],k,xs,t,ht,_=>by
  have a:y=m.fElement\/y=m.fPart\/y=m.fRepeat\/y=m.fEnd:=by
   rcases hy with h|h
   ·exact .inl h
   ·exact .inr (.inr (.inr h))
  exact .fin (GG (E6 a) (Z.esc y a) t ht.1 ht.2) hy
 |z::l,k,xs,t,ht,hl=>by
  obtain⟨h1,h2⟩:=hl z oS
  have a:z.1=m.fElement\/z.1=m.fPart\/z.1=m.fRepeat\/z.1=m.fEnd:=by
   rcases h1 with h|h
   ·exact .inr (.inr (.inl h))
   ·exact .inr (.inl h)
  have hn:¬ (z.1=m.fElement\/z.1=m.fEnd):=by
   rcases h1 with h|h<;>rw[h]<;>rintro(e|e)
   ·exact Z.eR e.symm
   ·exact Z.nR e.symm
   ·exact Z.eP e.symm
   ·exact Z.nP e.symm
  have e:sx m (z::l)++y::q=z.1::(qP m z.2++(sx m l++y::q)):=by simp[sx,n6]
  rw[e]
  exact .more (GG (E6 a) (Z.esc z.1 a) t ht.1 ht.2) hn (Q7 Z hy l z.1 (la m k xs t) z.2 h2 fun z hz=>hl z (To _ hz))
theorem yg {m:ab} (Z:lu m):∀ (ps:List bt) (xs:List (List bt)) (p:List bt),mz m (xs++[p]) (ps.map fun t=>(m.fPart,t))=xs++[p++ps]
 |[],xs,p=>by simp[mz]
 |t::ps,xs,p=>by
  have:=yg Z ps xs (p++[t])
  have e:la m m.fPart (xs++[p]) t=xs++[p++[t]]:=by
   unfold la
   rw[if_neg Z.pR,gG]
  simp only[mz,Tc,US,e] at this⊢
  rw[this];simp
def vQ (m:ab):List bt->KP
 |[]=>[]
 |t::ps=>(m.fRepeat,t)::ps.map fun t=>(m.fPart,t)
theorem GH (Z:lu m) (Y:p≠[]) (xs:List (List bt)):mz m xs (vQ m p)=xs++[p]:=by
 cases p with
 |nil=>exact absurd rfl Y
 |cons t ps=>
  have e:la m m.fRepeat xs t=xs++[[t]]:=by
   unfold la
   rw[U4 rfl,gG];rfl
  have:=yg Z ps xs [t]
  simp only[vQ]
  unfold mz at this⊢
  rw[US,e,this]
  rfl
theorem B7 (m:ab) (xs:List (List bt)) (a b:KP):mz m xs (a++b)=mz m (mz m xs a) b:=by simp[mz,List.foldl_append]
theorem yh {m:ab} (Z:lu m):∀ (zs:List (List bt)) (xs:List (List bt)),(∀ p∈zs,p≠[])->mz m xs (zs.flatMap (vQ m))=xs++zs
 |[],xs,_=>by simp[mz]
 |p::zs,xs,h=>by
  rw[Tu,B7,GH Z (h p oS),yh Z zs _ fun p Y=>h p (To _ Y)]
  simp
theorem I4 (m:ab) (p:List bt):sx m (vQ m p)=uX m m.fRepeat p:=by
 cases p with
 |nil=>rfl
 |cons t ps=>simp[vQ,sx,uX,List.flatMap_map]
theorem zU (m:ab):∀ (zs:List (List bt)),sx m (zs.flatMap (vQ m))=zs.flatMap (uX m m.fRepeat)
 |[]=>rfl
 |p::zs=>by
  have:=zU m zs
  rw[Tu,Tu,<-this,<-I4]
  simp[sx]
def Nm (m:ab) (e:aj):Prop:=e.fRepeats≠[]/\∀ p∈e.fRepeats,p≠[]/\∀ t∈p,zT m t
theorem Nn (h:∀ t∈p,zT m t):∀ z∈vQ m p,(z.1=m.fRepeat\/z.1=m.fPart)/\zT m z.2:=by
 cases p with
 |nil=>intro z hz;cases hz
 |cons t ps=>
  intro z hz
  rcases Tf.1 hz with rfl|hz
  ·exact⟨.inl rfl,h t oS⟩
  ·obtain⟨u,hu,rfl⟩:=Tp.1 hz
   exact⟨.inr rfl,h u (To _ hu)⟩
theorem PF (Z:lu m) (hy:y=m.fElement\/y=m.fEnd) {e:aj} (he:Nm m e):∃ r,me m e.fRepeats++y::q=m.fElement::r/\Fb m m.fRepeat [] r (.inr (e.fRepeats,y::q)):=by
 obtain⟨l⟩:=e
 obtain⟨h1,h2⟩:=he
 simp only at h1 h2⊢
 cases l with
 |nil=>exact absurd rfl h1
 |cons p xs=>
  obtain⟨Y,b⟩:=h2 p oS
  cases p with
  |nil=>exact absurd rfl Y
  |cons t ps=>
   have key:=Q7 Z (q:=q) hy (ps.map (fun t=>(m.fPart,t))++xs.flatMap (vQ m)) m.fRepeat [] t (b t oS) (fun z hz=>by
    rcases Te.1 hz with hz|hz
    ·obtain⟨u,hu,rfl⟩:=Tp.1 hz
     exact⟨.inr rfl,b u (To _ hu)⟩
    ·obtain⟨p,Y,hz⟩:=Ut.1 hz
     exact Nn (h2 p (To _ Y)).2 z hz)
   refine⟨qP m t++(sx m (ps.map (fun t=>(m.fPart,t))++xs.flatMap (vQ m))++y::q), ?_, ?_⟩
   rotate_left
   ·have e1:mz m [] ((m.fRepeat,t)::(ps.map (fun t=>(m.fPart,t))++xs.flatMap (vQ m)))=(t::ps)::xs:=by
     have:(m.fRepeat,t)::(ps.map (fun t=>(m.fPart,t))++xs.flatMap (vQ m))=((t::ps)::xs).flatMap (vQ m):=by simp[vQ]
     rw[this,yh Z _ _ (fun p Y=>(h2 p Y).1)]
     rfl
    rw[e1] at key
    exact key
   ·have e2:sx m (ps.map (fun t=>(m.fPart,t))++xs.flatMap (vQ m))=ps.flatMap (n6 m m.fPart)++xs.flatMap (uX m m.fRepeat):=by
     rw[<-zU]
     simp[sx,List.flatMap_map]
    rw[e2]
    simp[me,uX,n6]
theorem E7 {els:List aj} (h:∀ e∈els,Nm m e) (q:bt):∃ y q',rV m els++m.fEnd::q=y::q'/\(y=m.fElement\/y=m.fEnd):=by
 cases els with
 |nil=>exact⟨m.fEnd,q,rfl,.inr rfl⟩
 |cons e2 els=>
  have h0:=(h e2 oS).1
  have h1:=(h e2 oS).2
  cases hx:e2.fRepeats with
  |nil=>exact absurd hx h0
  |cons p xs=>
   cases p with
   |nil=>exact absurd rfl (h1 [] (by rw[hx];simp)).1
   |cons t ps=>
    have D:∃ r,me m ((t::ps)::xs)=m.fElement::r:=⟨_,rfl⟩
    obtain⟨r,D⟩:=D
    refine⟨m.fElement,r++(rV m els++m.fEnd::q), ?_,.inl rfl⟩
    rw[rV,Tu,hx,D]
    simp[rV]
theorem O2 {m:ab} (Z:lu m) (q:bt):∀ (els acc:List aj),(∀ e∈els,Nm m e)->vR m acc (rV m els++m.fEnd::q) (.inr (acc++els,m.fEnd::q))
 |[],acc,_=>by
  rw[Tg]
  exact .fin Z.eN.symm
 |e::els,acc,h=>by
  have ih:=O2 Z q els (acc++[e]) fun e he=>h e (To _ he)
  have hh:=E7 (els:=els) (fun e he=>h e (To _ he)) q
  obtain⟨y,q',hq,hy⟩:=hh
  obtain⟨r,D,B⟩:=PF Z (y:=y) (q:=q') hy (h e oS)
  have e1:rV m (e::els)++m.fEnd::q=m.fElement::r:=by
   rw[<-D,<-hq,rV,Tu,S6];rfl
  rw[e1]
  rw[hq] at ih
  have e2:acc++e::els=acc++[e]++els:=by simp
  rw[e2]
  exact .more B ih
theorem I5 (Z:lu m) {b:UInt8} (h:wV b=true):fk m b=false:=by
 cases hs:fk m b with
 |false=>rfl
 |true=>
  exfalso
  have hb:eG b=true:=by
   unfold fk at hs
   rw[TE,lw,lw] at hs
   rcases hs with rfl|rfl
   ·exact Z.bE
   ·exact Z.bN
  unfold eG at hb
  unfold wV zm at h
  simp only[SR,TI,TS,TE,Bool.and_eq_false_iff,S5,Tk] at hb h
  omega
theorem DI {l:bt} (h:nq l=true):l.all wV=true/\∃ b t,l=b::t/\zm b=true:=by
 cases l with
 |nil=>cases h
 |cons b t=>
  simp only[nq,SR] at h
  refine⟨?_,b,t,rfl,h.1.2⟩
  rw[Uk,h.2,Bool.and_true]
  unfold wV
  rw[h.1.2,Bool.true_or]
theorem KQ {p:UInt8->Bool} {y:UInt8} {q:bt} (hy:p y=false):∀ {s:bt},(∀ x∈s,p x=true)->(s++y::q).takeWhile p=s/\(s++y::q).dropWhile p=y::q
 |[],_=>by simp[U8,UG,hy]
 |x::s,h=>by
  have:=KQ (q:=q) hy (s:=s) fun x hx=>h x (To _ hx)
  simp only[Td,U8,UG,h x oS,TB,this,and_self]
theorem Q8 (Z:lu m) {s:bt} (hs:nq s=true) (hy:y=m.fElement\/y=m.fEnd):u_ m (s++y::q)= .inr (s,y::q):=by
 have s2:(!fk m y)=false:=by
  unfold fk
  rcases hy with rfl|rfl
  ·rw[(lw _ _).2 rfl];rfl
  ·rw[(lw _ _).2 rfl,Bool.or_true];rfl
 obtain⟨h1,h2⟩:=KQ (p:=fun b=> !fk m b) (q:=q) s2 (s:=s) fun x hx=>by
  have:=Ti.1 (DI hs).1 x hx
  simp only[I5 Z this,Tm]
 unfold u_
 rw[h1,h2]
 simp only[hs,TB]
def E8 (m:ab) (s:aa):Prop:=nq s.fTag=true/\∀ e∈s.fElements,Nm m e
theorem Q9 (Z:lu m) {s:aa} (hs:E8 m s) (q:bt):ui m (s.fTag++(rV m s.fElements++m.fEnd::q)) (.inr (s,q)):=by
 obtain⟨tag,els⟩:=s
 obtain⟨y,q',hq,hy⟩:=E7 hs.2 q
 have h1:=O2 Z q els [] hs.2
 rw[S8] at h1
 have h2:=Q8 Z hs.1 (q:=q') hy
 rw[<-hq] at h2
 exact .ok h2 h1
theorem KR {c:Bool} {l:List aa} (h:∀ s∈l,E8 m s):e4 (iL m c l)=false:=by
 cases l with
 |nil=>rfl
 |cons s l=>
  obtain⟨-,b,t,hb,hl⟩:=DI (h s oS).1
  rw[iL,Tu,I1,hb]
  simp only[Td]
  unfold e4
  split
  ·rename_i h
   simp only[TG] at h
   rw[h.1] at hl
   exact absurd hl oD
  ·rfl
theorem O3 {m:ab} (Z:lu m) (c:Bool):∀ (l out:List aa) (ln:Bool),(∀ s∈l,E8 m s)->(out=[]\/ln=c)->n8 m out ln (iL m c l) (.inr (out++l,if l=[] then ln else c))
 |[],out,ln,_,_=>by
  rw[Tg,U4 rfl]
  exact .nil
 |s::l,out,ln,h,ho=>by
  have hl:∀ s∈l,E8 m s:=fun s hs=>h s (To _ hs)
  have C:=KR (c:=c) hl
  have hq:iL m c (s::l)=s.fTag++(rV m s.fElements++m.fEnd::((if c=true then[10] else[])++iL m c l)):=by
   rw[iL,Tu,I1]
   cases c<;>simp[BN,iL]
  have a:e4 ((if c=true then[10] else[])++iL m c l)=c:=by
   cases c with
   |false=>exact C
   |true=>rfl
  have ht:(if e4 ((if c=true then[10] else[])++iL m c l)=true then((if c=true then[10] else[])++iL m c l).tail else((if c=true then[10] else[])++iL m c l))=iL m c l:=by
   rw[a]
   cases c<;>simp
  rw[hq]
  have ih:=O3 Z c l (out++[s]) c hl (.inr rfl)
  have e:(if l=[] then c else c)=c:=by split<;>rfl
  rw[e] at ih
  have U:¬ (s::l=[]):=by simp
  rw[if_neg U,show out++s::l=out++[s]++l by simp]
  refine .more ?_ (Q9 Z (h s oS) _) ?_ ?_
  ·obtain⟨-,b,t,hb, -⟩:=DI (h s oS).1
   rw[hb];simp
  ·rw[a];exact ho
  ·rw[ht,a];exact ih
variable {b:bt} {m:ab} {p:Bool} {x:List aa}
theorem M3 (i e:Int):px i e=some (BQ i e):=by
 unfold px kZ;dsimp only
 rfl
theorem QI {i:Int} (h:mq b=(m,i,0)):8<=b.length/\eq m=0:=by
 obtain⟨h1,h2⟩:=Gl h
 have:=TX List.length h2
 simp only[SS] at this
 have h8:(ft m).length=8:=rfl
 exact⟨by omega,h1⟩
theorem jn {α:Type} {l:List α} {k:Nat} (h:k<=l.length):cz l ((some (k:Int)).getD 0) ((none:Option Int).getD (l.length:Int))=some (l.drop k):=by
 unfold cz
 simp only[TU,UL]
 rw[U4 oM]
 simp
theorem MF (m:ab) (p:Bool) (x:List aa) (k:Nat):(iL m p (x.take k)).length<=(iL m p x).length:=by
 have:iL m p x=iL m p (x.take k)++iL m p (x.drop k):=by
  unfold iL
  rw[<-UV,Tl]
 rw[this,SS]
 omega
theorem OG (Z:eq m=0) (hc:n8 m [] false b (.inr (x,p))):b=iL m p x:=by
 have hk:=vP Z
 obtain⟨_,ys,e1,e2,_⟩:=HV hk.pR hk.eN hc x p rfl
 rw[e2,e1,S8]
theorem EM (Z:eq m=0) (h8:8<=b.length) (hb:b.length<=500000) (hc:n8 m [] false (b.drop 8) (.inr (x,p))) {c:aF} (h1:c.fstarts.length=x.length) (h2:PJ m (b.drop 8) (.inr (x,p)) c.fstarts) (k:Nat):
  py (k:Int) (some c) b=some (QS m p x k):=by
 have hk:=vP Z
 have ha:=TX List.length (OG Z hc)
 rw[TQ] at ha
 have ht:=MF m p x k
 unfold py kZ;dsimp only
 simp only[SQ]
 unfold QS
 by_cases hl:k<x.length
 ·have d:decide ((k:Int)<(c.fstarts.length:Int))=true:=UU oM
  obtain⟨n,hn⟩:=eF (l:=c.fstarts) (i:=k) oM
  have G:=MD hk.pR hk.eN hc h2 hn oM
  rw[d,S4,aw,hn]
  simp only[SQ]
  rw[G,bh _ oM oM]
 ·have d:decide ((k:Int)<(c.fstarts.length:Int))=false:=TZ oM
  rw[d,S7,Tt oM]
  congr 1
  omega
theorem Gn {S:Type} {f:S->Option (S⊕(S⊕QR))} (st:Nat->S) (v:Nat->QR) (hs:∀ j s,x[j+1]?=some s->f (st j)=if s.fTag=fy then some (.inr (.inr (v j))) else some (.inl (st (j+1)))) (he:f (st (x.length - 1))=some (.inr (.inl (st (x.length - 1))))):
  (∀ k s,x[k+1]?=some s->s.fTag=fy->(∀ j s,j<k->x[j+1]?=some s->s.fTag≠fy)->bc f (st 0)=some (.inr (v k)))/\((∀ j s,x[j+1]?=some s->s.fTag≠fy)->bc f (st 0)=some (.inl (st (x.length - 1)))):=by
 have d:=oE (f:=f) (z:= .inl (st (x.length - 1))) st (x.length - 1) (fun j=>match x[j+1]? with|some s=>if s.fTag=fy then some (.inr (v j)) else none|none=>none) (fun i hi hg=>by
  obtain⟨s,C⟩:=eF (l:=x) (i:=i+1) oM
  simp only[C] at hg
  rw[hs i s C]
  by_cases ht:s.fTag=fy
  ·rw[U4 ht] at hg;cases hg
  ·rw[if_neg ht]) (fun i a hi hg=>by
  obtain⟨s,C⟩:=eF (l:=x) (i:=i+1) oM
  simp only[C] at hg
  rw[hs i s C]
  by_cases ht:s.fTag=fy
  ·rw[U4 ht] at hg⊢;cases hg;rfl
  ·rw[if_neg ht] at hg;cases hg) he
 refine⟨fun k s hk ht hj=> ?_,fun hn=> ?_⟩
 ·rw[d,yN (k:=k) (a:= .inr (v k)) (by have:=cB hk;omega) (fun j b=> ?_) (by simp only[hk];rw[U4 ht])]
  ·rfl
  ·cases hx:x[j+1]? with
   |none=>rfl
   |some s'=>simp only;rw[if_neg (hj j s' b hx)]
 ·rw[d,yM (fun j hj=> ?_)]
  ·rfl
  ·cases hx:x[j+1]? with
   |none=>rfl
   |some s'=>simp only;rw[if_neg (hn j s' hx)]
theorem MG (hs:et x=0) {n:Nt} {N:List Nt} (hP:SP I0 (xd x) (n::N)):n.fSegment=((n.fSegment.toNat:Nat):Int):=by
 have hq:=O0 (oG hs).1 n (hP.1.mem_iff.2 oS)
 have:=hq.1
 omega
variable {b:bt}
theorem Dv {m:ab} {i:Int} (h:Cr b m i):8<=b.length/\eq m=0/\decide ((500000:Int)<(b.length:Int))=false/\(b.drop 8).length<=1000000:=by
 obtain⟨h1,h2⟩:=QI h.1
 have:=h.2
 exact⟨h1,h2,TZ oM,by rw[TQ];omega⟩
theorem IH {x:List aa} {j:Nat} {s:aa} (hj:x[j+1]?=some s):(x.drop 1)[j]?=some s:=by rw[T2,Nat.add_comm];exact hj
theorem RE (hb:b.length<=9223372036854775807) {z:QR} (hz:J6 b z):f8 b=some z:=by
 have d0:decide ((0:Int)=0)=true:=rfl
 have H:decide ((10:Int)=0)=false:=rfl
 have A:decide ((10:Int)=10)=true:=rfl
 have v:decide ((0:Int)=10)=false:=rfl
 cases hz with
 |head h he=>
  unfold f8 f6;dsimp only
  simp only[tM b hb,h,SQ,TZ he,Tm,S4,M3]
  try rfl
 |big h hl=>
  have d:decide ((500000:Int)<(b.length:Int))=true:=UU oM
  unfold f8 f6;dsimp only
  simp only[tM b hb,h,SQ,d0,TA,S9,S7,d,S4,M3]
  try rfl
 | @syn m i q h hc=>
  obtain⟨h8,Z,g,hl⟩:=Dv h
  obtain⟨hE,F,hX⟩:=nL Z
  obtain⟨z,hz,a⟩:=CH m hE F _ hl hc
  simp only[ux] at a
  have h2:=h.2
  have e:=jn (l:=b) (k:=8) h8
  unfold f8 f6;dsimp only
  simp only[tM b hb,h.1,SQ,d0,TA,S9,S7,g,show((8:Nat):Int)=8 from rfl] at e⊢
  rw[e]
  simp only[SQ,hz,a,A,S4,M3]
  rw[bh _ oM (by rw[TQ] at *;omega)]
  try rfl
 | @seg m i x p h hc hs=>
  obtain⟨h8,Z,g,hl⟩:=Dv h
  obtain⟨hE,F,hX⟩:=nL Z
  obtain⟨z,hz,a⟩:=CH m hE F _ hl hc
  simp only[ux,if_neg hs] at a
  have e:=jn (l:=b) (k:=8) h8
  unfold f8 f6;dsimp only
  simp only[tM b hb,h.1,SQ,d0,TA,S9,S7,g,show((8:Nat):Int)=8 from rfl] at e⊢
  rw[e]
  simp only[SQ,hz,a]
  by_cases o:et x=10
  ·simp only[o,A,S4,M3,TB]
   rfl
  ·simp only[TZ o,TZ hs,S7,Tm,S4,M3,if_neg o]
   rfl
 | @note m i x p n N h hc hs hW hP=>
  obtain⟨h8,Z,g,hl⟩:=Dv h
  obtain⟨hE,F,hX⟩:=nL Z
  obtain⟨z,hz,a⟩:=CH m hE F _ hl hc
  simp only[ux,U4 hs] at a
  obtain⟨c,a,hx,Y,h1,h2⟩:=a
  obtain⟨W,f,I,G⟩:=vN x (CE hs)
  have t:W=n::N:=HF Q2 I hW (G.symm.trans hP)
  subst t
  have e:=jn (l:=b) (k:=8) h8
  have dn:decide ((0:Int)<(((n::N).length:Nat):Int))=true:=UU (by simp only[ST];omega)
  have K:b4 (n::N) 0=some n:=rfl
  have J:=EM Z h8 h.2 hc h1 h2 n.fSegment.toNat
  rw[<-MG hs hP] at J
  unfold f8 f6;dsimp only
  simp only[tM b hb,h.1,SQ,d0,TA,S9,S7,g,show((8:Nat):Int)=8 from rfl] at e⊢
  rw[e]
  simp only[SQ,hz,a,v,d0,TA,S7,S9,hx,f,dn,S4,K,J,M3]
  try rfl
 | @nil m i p h hc=>
  have hs:et ([]:List aa)=0:=rfl
  obtain⟨h8,Z,g,hl⟩:=Dv h
  obtain⟨hE,F,hX⟩:=nL Z
  obtain⟨z,hz,a⟩:=CH m hE F _ hl hc
  simp only[ux,U4 hs] at a
  obtain⟨c,a,hx,Y,h1,h2⟩:=a
  obtain⟨W,f,I,G⟩:=vN [] (CE hs)
  have t:W=[]:=Ta.1 (by rw[<-G.1.length_eq];rfl)
  subst t
  have e:=jn (l:=b) (k:=8) h8
  have dn:decide ((0:Int)<(((([]:List Nt)).length:Nat):Int))=false:=rfl
  have de:decide (((([]:List aa).length:Nat):Int)=0)=true:=rfl
  unfold f8 f6;dsimp only
  simp only[tM b hb,h.1,SQ,d0,TA,S9,S7,g,show((8:Nat):Int)=8 from rfl] at e⊢
  rw[e]
  simp only[SQ,hz,a,v,d0,TA,S7,S9,hx,f,dn,de,S4,M3]
  try rfl
 | @ihd m i x p k s h hc hs hq hk ht hj=>
  obtain⟨h8,Z,g,hl⟩:=Dv h
  obtain⟨hE,F,hX⟩:=nL Z
  obtain⟨z,hz,a⟩:=CH m hE F _ hl hc
  simp only[ux,U4 hs] at a
  obtain⟨c,a,hx,Y,h1,h2⟩:=a
  obtain⟨W,f,I,G⟩:=vN x (CE hs)
  have t:W=[]:=Ta.1 (by rw[<-G.1.length_eq,hq];rfl)
  subst t
  have D:=(oG hs).1
  have M:=cB hk
  have e:=jn (l:=b) (k:=8) h8
  have C:=jn (l:=x) (k:=1) oM
  have dn:decide ((0:Int)<(((([]:List Nt)).length:Nat):Int))=false:=rfl
  have de:decide (((x.length:Nat):Int)=0)=false:=TZ oM
  unfold f8 f6;dsimp only
  simp only[tM b hb,h.1,SQ,d0,TA,S9,S7,g,show((8:Nat):Int)=8 from rfl,show((1:Nat):Int)=1 from rfl] at e C⊢
  rw[e]
  simp only[SQ,hz,a,v,d0,TA,S7,S9,hx,f,dn,de]
  rw[C]
  simp only[SQ]
  refine co ((Gn (x:=x) (fun j=>(Si,IC,(j:Int))) (fun j=>BQ (QS m p x (j+1)) 3) (fun j s u=> ?_) ?_).1 k s hk ht hj) rfl
  ·have E:=cB u
   have w:decide ((j:Int)<((x.drop 1).length:Int))=true:=UU (by rw[TQ];omega)
   have J:=EM Z h8 h.2 hc h1 h2 (j+1)
   simp only[w,S4,aw,IH u,SQ,bB j oM,J,M3]
   by_cases r:s.fTag=fy
   ·rw[U4 r,UU (show s.fTag=[73,72,68] from r)];rfl
   ·rw[if_neg r,TZ (show¬ s.fTag=[73,72,68] from r)];rfl
  ·have w:decide (((x.length - 1:Nat):Int)<((x.drop 1).length:Int))=false:=TZ (by rw[TQ];omega)
   simp only[w,S7];rfl
 | @fin m i y p h hc hs hq hj B=>
  obtain⟨h8,Z,g,hl⟩:=Dv h
  obtain⟨hE,F,hX⟩:=nL Z
  obtain⟨z,hz,a⟩:=CH m hE F _ hl hc
  simp only[ux,U4 hs] at a
  obtain⟨c,a,hx,Y,h1,h2⟩:=a
  obtain⟨W,f,I,G⟩:=vN (ki y) (CE hs)
  have t:W=[]:=Ta.1 (by rw[<-G.1.length_eq,hq];rfl)
  subst t
  have D:=(oG hs).1
  have L:=jk y
  have e:=jn (l:=b) (k:=8) h8
  have C:=jn (l:=ki y) (k:=1) oM
  have dn:decide ((0:Int)<(((([]:List Nt)).length:Nat):Int))=false:=rfl
  have de:decide ((((ki y).length:Nat):Int)=0)=false:=TZ oM
  unfold f8 f6;dsimp only
  simp only[tM b hb,h.1,SQ,d0,TA,S9,S7,g,show((8:Nat):Int)=8 from rfl,show((1:Nat):Int)=1 from rfl] at e C⊢
  rw[e]
  simp only[SQ,hz,a,v,d0,TA,S7,S9,hx,f,dn,de]
  rw[C]
  simp only[SQ]
  refine co ((Gn (x:=ki y) (fun j=>(Si,IC,(j:Int))) (fun j=>BQ (QS m p (ki y) (j+1)) 3) (fun j s u=> ?_) ?_).2 hj) ?_
  ·have E:=cB u
   have w:decide ((j:Int)<(((ki y).drop 1).length:Int))=true:=UU (by rw[TQ];omega)
   have J:=EM Z h8 h.2 hc h1 h2 (j+1)
   simp only[w,S4,aw,IH u,SQ,bB j oM,J,M3]
   by_cases r:s.fTag=fy
   ·rw[U4 r,UU (show s.fTag=[73,72,68] from r)];rfl
   ·rw[if_neg r,TZ (show¬ s.fTag=[73,72,68] from r)];rfl
  ·have w:decide ((((ki y).length - 1:Nat):Int)<(((ki y).drop 1).length:Int))=false:=TZ (by rw[TQ];omega)
   simp only[w,S7];rfl
  ·simp only[c3,RD B hs,Rr y (EL B hs).1,SQ,Y]
   by_cases h0:Iy y=0
   ·rw[U4 h0,h0];rfl
   ·rw[if_neg h0,TZ h0]
    simp only[Tm,S4,M3]
    rfl
variable {y:Ix}
theorem wZ:il=some true:=by
 unfold il tA;dsimp only
 have h:fv ⟨UInt8.ofNat (Int.toNat 42),UInt8.ofNat (Int.toNat 58),UInt8.ofNat (Int.toNat 94),UInt8.ofNat (Int.toNat 63),UInt8.ofNat (Int.toNat 126)⟩=some ([77,82,75,42,58,94,63,126],0):=by
  unfold fv
  rw[zD]
  rfl
 rw[h]
 rfl
theorem OH (l:List Ms) (hl:l.length<=1048576) (h:∀ m∈l,ED m.fSegments):e_ l l=some true:=by
 unfold e_ kV;dsimp only
 have d:decide ((l.length:Int)=(l.length:Int))=true:=by simp
 rw[d]
 simp only[S9,S7]
 refine(x_ l (fun _=>true) false (fun i e he=> ?_) (by simp only[aB,S7];rfl)).trans ?_
 ·have hi:=cB he
  simp only[br hi,S4,aw,he,SQ,bB i oM,TA,S9,bT,UB,T7,S7,Cp e.fSegments (h e (SW he)).1 (h e (SW he)).2,TB]
 ·rw[U4 oS]
theorem HD (x:Ix) (hl:x.fGroups.length<=1048576) (h:∀ g∈x.fGroups,g.fMessages.length<=1048576/\∀ m∈g.fMessages,ED m.fSegments):cJ x x=some true:=by
 unfold cJ kW;dsimp only
 have d:decide ((x.fGroups.length:Int)=(x.fGroups.length:Int))=true:=by simp
 simp only[TA,S9,UB,bT,S7,d]
 refine(x_ x.fGroups (fun _=>true) false (fun i e he=> ?_) (by simp only[aB,S7];rfl)).trans ?_
 ·have hi:=cB he
  have Z:=h e (SW he)
  simp only[br hi,S4,aw,he,SQ,bB i oM,TA,S9,bT,UB,T7,S7,OH e.fMessages Z.1 Z.2,TB]
 ·rw[U4 oS]
theorem MH {g:Gp} (hg:g∈y.fGroups) {m:Ms} (Z:m∈g.fMessages) {s:aa} (hs:s∈m.fSegments):s∈ki y:=by
 unfold ki
 refine To _ (TT _ (Ut.2 ⟨g,hg, ?_⟩))
 unfold Br
 refine To _ (TT _ (Ut.2 ⟨m,Z, ?_⟩))
 unfold Co
 exact To _ (TT _ hs)
theorem J9 (hE:M8 y) (hs:et (ki y)=0):cJ y y=some true:=by
 obtain⟨r5,hn⟩:=EL hE hs
 obtain⟨_,ha⟩:=oG hs
 refine HD y r5.len fun g hg=>⟨(r5.grp g hg).len,fun m Z=>⟨TW ((r5.grp g hg).msg m Z).len oM,fun s u=>Mj (ha s (MH hg Z u))⟩⟩
variable {m:ab}
theorem sy {α:Type} {c:α->Nat}:∀ {l:List α},(∀ x∈l,c x=0)->(l.map c).sum=0
 |[],_=>rfl
 |x::l,h=>by
  have h1:=h x oS
  have h2:=sy (l:=l) (c:=c) fun y hy=>h y (To _ hy)
  simp only[Tc,UY,h1,h2]
theorem Np {x:List aa} (h:∀ s∈x,∀ e∈s.fElements,zS m e.fRepeats):iy m (qO m x)=false:=by
 unfold iy
 by_cases hz:m.fEscape.toNat=0
 ·have:qO m x=0:=sy fun s hs=>sy fun e he=>sy fun p Y=>sy fun t ht=>by
   rcases h s hs e he p Y t ht with h|h
   ·exact absurd hz h
   ·exact h
  rw[this];simp
 ·simp[hz]
theorem Nq {l:List aa} (h:iy m (qO m l)=false) {s:aa} (hs:s∈l) {e:aj} (he:e∈s.fElements) {p:List bt} (Y:p∈e.fRepeats) {t:bt} (ht:t∈p):zQ m t:=by
 have h0:=GC h
 have h1:iH m t<=EI m p:=ua (c:=iH m) ht
 have h2:EI m p<=Gg m e:=ua (c:=EI m) Y
 have E:Gg m e<=yb m s:=ua (c:=Gg m) he
 have h4:yb m s<=qO m l:=ua (c:=yb m) hs
 rcases h0 with h0|h0
 ·exact .inl h0
 ·exact .inr oM
theorem E9 (b:bt) (h:b.length<=137438953472):pq b b=some true:=by
 unfold pq a8;dsimp only
 simp
end Go.Proofs.YtgmnipfafmphaaaGreatDoor
