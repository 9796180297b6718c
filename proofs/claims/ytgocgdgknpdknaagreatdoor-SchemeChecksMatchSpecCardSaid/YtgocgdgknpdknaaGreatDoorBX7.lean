/-
  Laws on the way to the theorem.
-/
import Derived.Test.YtgocgdgknpdknaaGreatDoorBX6
import Derived.Lib.ItoaLen
import Derived.Lib.Join
namespace Go.Proofs.YtgocgdgknpdknaaGreatDoor
open Go.RowKit
set_option linter.unusedSimpArgs false
set_option linter.unusedVariables false
theorem Ir (S:ah) (hr:BB S.fDefs) (hs:S.fDefs.length<=1000) {fu:Nat} {rec:List Sl->Int->Int×Int} {deep:Nat} {m:Int} {e:Sl} (hd:deep<=7) (h0:0<=m) (h1:m<=300) (hb:At e)
  (hrec:e.fName≠[]->m+1<=300->deep<=6->aX fu ⟨S,m+1⟩ e.fItems ((deep:Int)+1)=some ((rec e.fItems (m+1)).1,⟨S,(rec e.fItems (m+1)).2⟩)):
  bj (fu+1) ⟨S,m⟩ e (deep:Int)=some ((qI (ay S.fDefs) rec deep m e).1,⟨S,(qI (ay S.fDefs) rec deep m e).2⟩):=by
 rw[iq];unfold lW;dsimp only;simp only[im]
 obtain⟨d,hdf⟩:=G7 S e.fTag hr hs
 simp only[fh,HC e hb,I2 e hb,CC _ hb.name,wW,bG,aW,JP,hdf]
 rw[eJ (m+1) oM oM,eJ ((deep:Int)+1) oM oM]
 rcases BH (ay S.fDefs) rec deep m e with⟨c1,q⟩|⟨c1,c2,q⟩|⟨c1,c2,c3,q⟩|⟨c1,c2,c3,c4,q⟩|⟨c1,c2,c3,c4,c5,q⟩|⟨c1,c2,c3,c4,c5,q⟩
 ·rw[q,show(decide (300<m+1)||decide (6<(deep:Int)))=true by simpa using c1];rfl
 ·rw[q,show(decide (300<m+1)||decide (6<(deep:Int)))=false by simpa using c1]
  have:(!jR e&& !na e)=true:=by simpa using c2
  rw[this];rfl
 all_goals
  have h2:(!jR e&& !na e)=false:=by
   cases hv:jR e with
   |true=>rfl
   |false=>rw[hv] at c2;simp only[Kj] at c2;rw[c2];rfl
  have h1':(decide (300<m+1)||decide (6<(deep:Int)))=false:=by simpa using c1
 ·rw[q,h1',h2,Lj c3.1,c3.2];rfl
 all_goals
  have h3:(!decide (e.fName=[])&& !ct e.fName)=false:=by
   by_cases hv:e.fName=[]
   ·rw[Lb hv];rfl
   ·have:ct e.fName=true:=by
     cases hq:ct e.fName with
     |true=>rfl
     |false=>exact absurd ⟨hv,hq⟩ c3
    rw[this];simp
 ·rw[q,h1',h2,h3,Lb c4.1,c4.2];rfl
 all_goals
  have h4':(decide (e.fName=[])&& !ay S.fDefs e.fTag)=false:=by
   by_cases hv:e.fName=[]
   ·have:ay S.fDefs e.fTag=true:=by
     cases hq:ay S.fDefs e.fTag with
     |true=>rfl
     |false=>exact absurd ⟨hv,hq⟩ c4
    rw[this];simp
   ·rw[Lj hv];rfl
 ·have h5':(decide (e.fMin<0)||decide (e.fMax<e.fMin)||(decide (e.fMax<1)||decide (1000<e.fMax)))=true:=by
   simp only[J_,JS];omega
  rw[q,h1',h2,h3,h4',h5'];rfl
 ·have h5':(decide (e.fMin<0)||decide (e.fMax<e.fMin)||(decide (e.fMax<1)||decide (1000<e.fMax)))=false:=by
   simp only[KR,Kp];omega
  rw[q,h1',h2,h3,h4',h5']
  simp only[J4]
  by_cases hv:e.fName=[]
  ·rw[Lb hv,Ll hv];rfl
  ·rw[Lj hv,if_neg hv]
   simp only[J4]
   have:=hrec hv oM oM
   show(aX fu ⟨S,m+1⟩ e.fItems ((deep:Int)+1)).bind _=_
   rw[this];rfl
theorem FY (S:ah) (hr:BB S.fDefs) (hs:S.fDefs.length<=1000):∀ (k:Nat) (deep:Nat) (l:List Sl) (many:Int) (fu:Nat),deep<=7->8<=k+deep->2 * k+1<=fu->0<=many->many<=300->(∀ b∈l,At b)->
  aX fu ⟨S,many⟩ l (deep:Int)=some ((o6 (ay S.fDefs) k l deep many).1,⟨S,(o6 (ay S.fDefs) k l deep many).2⟩)
 |0,deep,_,_,_,h1,h2,_,_,_,_=>by omega
 |k+1,deep,l,many,0,_,_,h3,_,_,_=>by omega
 |k+1,deep,l,many,1,_,_,h3,_,_,_=>by omega
 |k+1,deep,l,many,fu+2,h1,h2,h3,h4,h5,hl=>by
  rw[io];unfold lW;dsimp only;simp only[ip]
  simp only[fh,Ei]
  unfold o6 I5
  by_cases c0:l=[]
  ·rw[Lb c0,Ll c0];rfl
  rw[Lj c0,if_neg c0]
  simp only[J4]
  by_cases c50:50<l.length
  ·rw[Ll c50,show decide (50<((l.length:Nat):Int))=true by simp;omega];rfl
  rw[if_neg c50,show decide (50<((l.length:Nat):Int))=false by simp;omega]
  simp only[J4]
  have hfb:∀ m b,0<=m->(qI (ay S.fDefs) (fun it m=>o6 (ay S.fDefs) k it ((deep:Int)+1) m) deep m b).1=0->m<=(qI (ay S.fDefs) (fun it m=>o6 (ay S.fDefs) k it ((deep:Int)+1) m) deep m b).2/\(qI (ay S.fDefs) (fun it m=>o6 (ay S.fDefs) k it ((deep:Int)+1) m) deep m b).2<=300:=fun m b hm hx=>by
   obtain⟨q1, -, -,q4⟩:=Dk hx
   rcases q4 with⟨_,q⟩|⟨_,q⟩
   ·rw[q];exact⟨by simp only;omega,by simp only;omega⟩
   ·rw[q] at hx⊢
    obtain⟨k1,k2⟩:=se _ k oM oM hx
    exact⟨by omega,k2⟩
  refine b0 (BF l (fun i (s:Int)=>(S,s,(i:Int))) (fun m e=>if(qI (ay S.fDefs) (fun it m=>o6 (ay S.fDefs) k it ((deep:Int)+1) m) deep m e).1=0 then .inl (qI (ay S.fDefs) (fun it m=>o6 (ay S.fDefs) k it ((deep:Int)+1) m) deep m e).2 else .inr (.inr ((qI (ay S.fDefs) (fun it m=>o6 (ay S.fDefs) k it ((deep:Int)+1) m) deep m e).1,⟨S,(qI (ay S.fDefs) (fun it m=>o6 (ay S.fDefs) k it ((deep:Int)+1) m) deep m e).2⟩)))
   (fun m=> .inl (S,m,(l.length:Int))) (fun m=>0<=m/\m<=300) (fun i e m he hm=> ?_) (fun e m m' he hm hg=> ?_) (fun m hm=> ?_) many ⟨h4,h5⟩) ?_
  ·have hi:=b8 he
   have hmem:=JU he
   have hb:=hl e hmem
   have hit:=Ir S hr hs (fu:=fu) (rec:=fun it m=>o6 (ay S.fDefs) k it ((deep:Int)+1) m) (deep:=deep) (m:=m) h1 hm.1 hm.2 hb (fun hn hm1 hd6=>by
    have:=FY S hr hs k (deep+1) e.fItems (m+1) fu oM oM oM oM hm1 hb.items
    rw[show((deep+1:Nat):Int)=(deep:Int)+1 by omega] at this
    exact this)
   simp only[bl hi,J1,aB,he,JP,bY i oM]
   show(bj (fu+1) ⟨S,m⟩ e (deep:Int)).bind _=_
   rw[hit]
   simp only[JP]
   by_cases hz:(qI (ay S.fDefs) (fun it m=>o6 (ay S.fDefs) k it ((deep:Int)+1) m) deep m e).1=0
   ·rw[Ll hz,Lb hz];rfl
   ·rw[if_neg hz,Lj hz];rfl
  ·by_cases hf:(qI (ay S.fDefs) (fun it m=>o6 (ay S.fDefs) k it ((deep:Int)+1) m) deep m e).1=0
   ·rw[Ll hf] at hg
    cases hg
    have:=hfb m e hm.1 hf
    exact⟨by omega,this.2⟩
   ·rw[if_neg hf] at hg;cases hg
  ·simp only[ak,J4];rfl
  ·have run2:∀ (l:List Sl) (many:Int) (fin:Int->(ah×Int×Int)⊕(Int×an)) (g:Int->Sl->Int×Int),yD (fun s e=>if(g s e).1=0 then(.inl (g s e).2:Int⊕((ah×Int×Int)⊕(Int×an))) else .inr (.inr ((g s e).1,⟨S,(g s e).2⟩))) fin l many=if(iK g l many).1=0 then fin (iK g l many).2 else .inr ((iK g l many).1,⟨S,(iK g l many).2⟩):=by
    intro l
    induction l with
    |nil=>intro many fin g;simp[yD,iK]
    |cons b l ih=>
     intro many fin g
     unfold yD iK
     by_cases hb:(g many b).1=0
     ·simp only[hb,K4];exact ih _ _ _
     ·simp only[hb,KG]
   rw[run2]
   by_cases hf:(iK (qI (ay S.fDefs) (fun it m=>o6 (ay S.fDefs) k it ((deep:Int)+1) m) deep) l many).1=0
   ·rw[Ll hf]
    show some (0,_)=_
    rw[hf]
   ·rw[if_neg hf];rfl
def Aj (W:List (List UInt8×Bool)) (t:List UInt8):Bool:=(n7 W t).getD false
theorem zp:∀ (W:List (List UInt8×Bool)) (k:List UInt8) (v:Bool) (t:List UInt8),n7 (mh W k v) t=if t=k then some v else n7 W t
 |[],k,v,t=>by simp[mh,n7]
 |p::W,k,v,t=>by
  unfold mh
  by_cases hk:k=p.1
  ·rw[Ll hk]
   simp only[n7]
   by_cases ht:t=k
   ·rw[Ll ht,Ll ht]
   ·rw[if_neg ht,if_neg ht,if_neg (fun h=>ht (h.trans hk.symm))]
  ·rw[if_neg hk]
   simp only[n7]
   by_cases ht:t=p.1
   ·rw[Ll ht,if_neg (fun h=>hk (h.symm.trans ht)),Ll ht]
   ·rw[if_neg ht,zp W k v t,if_neg ht]
theorem wM (W:List (List UInt8×Bool)) (k t:List UInt8):Aj (mh W k true) t=(decide (t=k)||Aj W t):=by
 unfold Aj
 rw[zp]
 by_cases h:t=k<;>simp[h]
theorem zq {W:List (List UInt8×Bool)} (h:∀ p∈W,p.2=true) (k:List UInt8):∀ p∈mh W k true,p.2=true:=by
 induction W with
 |nil=>intro p hp;simp[mh] at hp;rw[hp]
 |cons q W ih=>
  intro p hp
  unfold mh at hp
  split at hp
  ·rcases J2.1 hp with rfl|hp
   ·rfl
   ·exact h p (Ky _ hp)
  ·rcases J2.1 hp with rfl|hp
   ·exact h _ (Ks ..)
   ·exact ih (fun p hp=>h p (Ky _ hp)) p hp
theorem G8 {W:List (List UInt8×Bool)} (h:∀ p∈W,p.2=true) (t:List UInt8):Aj W t=W.any fun p=>decide (p.1=t):=by
 unfold Aj
 induction W with
 |nil=>rfl
 |cons q W ih=>
  simp only[n7,List.any_cons]
  by_cases ht:t=q.1
  ·rw[Ll ht,Lb ht.symm,h q (Ks ..)];rfl
  ·rw[if_neg ht,Lj (fun h=>ht h.symm),ih fun p hp=>h p (Ky _ hp)];rfl
theorem BJ:∀ (a b seen:List (List UInt8)),md seen (a++b)=(md seen a||md (seen++a) b)
 |[],b,seen=>by simp[md]
 |t::a,b,seen=>by
  simp only[J5,md,BJ a b (seen++[t]),Bool.or_assoc,KM,J5,Kd]
theorem Dp {D:List UInt8->Bool}:∀ (k:Nat) (l:List Sl) (fu:Nat) (W:List (List UInt8×Bool)) (T:List (List UInt8)),Au D k l->k<=fu->(∀ t,Aj W t=T.contains t)->
  ∃ b W',il fu l W=some (b,W')/\b=md T (sC k l)/\(b=false->∀ t,Aj W' t=(T++sC k l).contains t)
 |0,_,_,_,_,h,_,_=>h.elim
 |k+1,l,0,_,_,_,h,_=>by omega
 |k+1,l,fu+1,W,T,h,hf,hW=>by
  have h50:=h.len
  have key:∃ c:Bool×List (List UInt8×Bool),il (fu+1) l W=some c/\c.1=md T (sC (k+1) l)/\(c.1=false->∀ t,Aj c.2 t=(T++sC (k+1) l).contains t):=by
   rw[sO];unfold rp;dsimp only;simp only[sN]
   refine iG (X:=List (List UInt8×Bool)×Nat) (C:=fun c:Bool×List (List UInt8×Bool)=>c.1=md T (sC (k+1) l)/\(c.1=false->∀ t,Aj c.2 t=(T++sC (k+1) l).contains t)) (fun s=>(s.1,(s.2:Int))) (fun s=>l.length - s.2)
    (fun s=>s.2<=l.length/\(∀ t,Aj s.1 t=(T++(l.take s.2).flatMap (wG (sC k))).contains t)/\md T (sC (k+1) l)=md (T++(l.take s.2).flatMap (wG (sC k))) ((l.drop s.2).flatMap (wG (sC k)))) ?_ (W,0) ⟨Kf _,by simpa using hW,by simp[sC]⟩
   rintro⟨M,i⟩ ⟨h1,h2,h3⟩
   simp only at h1 h2 h3⊢
   rcases J9 i l.length with hi|hi
   ·obtain⟨e,he⟩:=dI hi
    have hm:=JU he
    have hsn:(l.take (i+1)).flatMap (wG (sC k))=(l.take i).flatMap (wG (sC k))++wG (sC k) e:=by rw[cQ he,La];simp
    rw[nc he,KV,BJ] at h3
    simp only[bl hi,J1,aB,he,JP,bY i oM]
    by_cases hn:e.fName=[]
    ·rw[Lb hn]
     have hz:wG (sC k) e=[]:=by unfold wG;rw[Ll hn]
     rw[hz] at h3
     refine .inl ⟨(M,i+1),⟨hi, ?_, ?_⟩,by simp only;omega,rfl⟩
     ·intro t;rw[hsn,hz];simpa using h2 t
     ·rw[hsn,hz,h3];simp[md]
    ·rw[Lj hn]
     have hz:wG (sC k) e=e.fName::sC k e.fItems:=by unfold wG;rw[if_neg hn]
     rw[hz] at h3
     simp only[md] at h3
     have hg:(n7 M e.fName).getD false=(T++(l.take i).flatMap (wG (sC k))).contains e.fName:=h2 e.fName
     simp only[J4]
     rw[hg]
     cases hc:(T++(l.take i).flatMap (wG (sC k))).contains e.fName with
     |true=>
      rw[hc] at h3
      exact .inr ⟨_,(true,M),rfl,rfl,by rw[h3];rfl,fun h=>by cases h⟩
     |false=>
      rw[hc,Kj] at h3
      simp only[J4]
      obtain⟨b,W',q1,q2,q3⟩:=Dp k e.fItems fu (mh M e.fName true) (T++(l.take i).flatMap (wG (sC k))++[e.fName]) ((h.it hm).2 hn) oM (fun t=>by
       rw[wM,h2 t,J8]
       simp only[Ln,Kc,K1,J_,JS]
       constructor
       ·rintro(h|h)
        ·exact .inr h
        ·exact .inl h
       ·rintro(h|h)
        ·exact .inr h
        ·exact .inl h)
      rw[q1]
      simp only[JP]
      rw[<-q2] at h3
      cases b with
      |true=>exact .inr ⟨_,(true,W'),rfl,rfl,by rw[h3];rfl,fun h=>by cases h⟩
      |false=>
       rw[Kj] at h3
       refine .inl ⟨(W',i+1),⟨hi, ?_, ?_⟩,by simp only;omega,rfl⟩
       ·intro t
        rw[q3 rfl t,hsn,hz]
        simp
       ·rw[hsn,hz,h3];simp
   ·have hl':i=l.length:=by omega
    subst hl'
    rw[Kx] at h2 h3
    rw[Le] at h3
    refine .inr ⟨.inl (M,(l.length:Int)),(false,M),by simp only[ak,J4];rfl,rfl, ?_,fun _=>h2⟩
    rw[h3];rfl
  obtain⟨⟨b,W'⟩,k1,k2,k3⟩:=key
  exact⟨b,W',k1,k2,k3⟩
theorem yh (R:Type) (K:List (List UInt8×Bool)->Option R):∀ (es:List (List UInt8×Bool)) (M:List (List UInt8×Bool)),ol (fun(e:List UInt8×Bool) (s:List (List UInt8×Bool))=>(some (Sum.inl (mh s e.1 true)):Option (List (List UInt8×Bool)⊕(List (List UInt8×Bool)⊕R)))) K es M=K (es.foldl (fun M e=>mh M e.1 true) M)
 |[],M=>rfl
 |e::es,M=>by
  simp only[ol,List.foldl_cons]
  exact yh R K es _
theorem BK:∀ (es:List (List UInt8×Bool)) (M:List (List UInt8×Bool)) (t:List UInt8),Aj (es.foldl (fun M e=>mh M e.1 true) M) t=(Aj M t||es.any fun p=>decide (p.1=t))
 |[],M,t=>by simp
 |e::es,M,t=>by
  simp only[List.foldl_cons,List.any_cons]
  rw[BK es _ t,wM]
  have:decide (t=e.1)=decide (e.1=t):=by congr 1;apply propext;exact eq_comm
  rw[this]
  cases decide (e.1=t)<;>cases Aj M t<;>simp
theorem zr:∀ (es:List (List UInt8×Bool)) (M:List (List UInt8×Bool)),(∀ p∈M,p.2=true)->∀ p∈es.foldl (fun M e=>mh M e.1 true) M,p.2=true
 |[],M,h=>h
 |e::es,M,h=>zr es _ (zq h e.1)
theorem FZ {α:Type} {p:α->Bool} {a b:List α} (h:a.Perm b):a.any p=b.any p:=by
 rw[J8,Ld,Ld]
 constructor
 ·rintro⟨x,hx,h1⟩;exact⟨x,h.mem_iff.1 hx,h1⟩
 ·rintro⟨x,hx,h1⟩;exact⟨x,h.mem_iff.2 hx,h1⟩
theorem Dq {D:List UInt8->Bool}:∀ (k:Nat) (l:List Sl) (fu:Nat) (W:List (List UInt8×Bool)) (S:List UInt8->Bool) (g:Bool),Au D k l->k<=fu->(∀ t,Aj W t=S t)->(∀ p∈W,p.2=true)->eo fu l W g=some (zn k l S g)
 |0,_,_,_,_,_,h,_,_,_=>h.elim
 |k+1,l,0,_,_,_,_,h,_,_=>by omega
 |k+1,l,fu+1,W,S,g,h,hf,hW,hT=>by
  have h50:=h.len
  rw[sQ];unfold rq;dsimp only;simp only[sP]
  have hlast:(cR (fun s:Int=>bif decide (s<(l.length:Int)) then(cx l s).bind fun e=>bif decide (e.fName=[]) then some (Sum.inl (IntKind.i64.wrap (s+1))) else qW W (fun e s=>some (Sum.inl (mh s e.fst true))) [] fun s_1=>(dy l ((some s).getD 0) ((none:Option Int).getD ((l.length:Nat):Int))).bind fun e_1=>(cR (fun s:List (List UInt8×Bool)×Int=>bif decide (s.snd<((e_1.length:Nat):Int)) then(cx e_1 s.snd).bind fun e=>(eX {fTag:=e.fTag,fName:=e.fName,fMin:=e.fMin,fMax:=e.fMax,fItems:=e.fItems}).bind fun x=>some (Sum.inl (mh s.fst x true,IntKind.i64.wrap (s.snd+1))) else dg (some (Sum.inl (s.fst,s.snd)))) (s_1,0)).bind (eh fun s_2=>(eo fu e.fItems s_2.fst true).bind fun x=>bif x then dg (dg (some true)) else some (Sum.inl (IntKind.i64.wrap (s+1)))) else dg (some (Sum.inl s))) 0).bind (eh fun _=>some false)=some (Ga (fun it S'=>zn k it S' true) S l):=by
   refine kS (X:=Nat) (fun i=>(i:Int)) (fun i=>l.length - i) (fun i=>i<=l.length/\Ga (fun it S'=>zn k it S' true) S l=Ga (fun it S'=>zn k it S' true) S (l.drop i)) ?_ 0 ⟨Kf _,rfl⟩
   rintro i ⟨k1,k2⟩
   rcases J9 i l.length with hi|hi
   ·obtain⟨e,he⟩:=dI hi
    have hm:=JU he
    have hdr:=nc he
    rw[hdr] at k2
    simp only[Ga] at k2
    simp only[bl hi,J1,aB,he,JP,bY i oM]
    by_cases hn:e.fName=[]
    ·rw[Lb hn] at k2⊢
     exact .inl ⟨i+1,⟨hi,by simpa using k2⟩,by omega,rfl⟩
    ·rw[Lj hn] at k2⊢
     simp only[Kt,J6] at k2
     have hsl:dy l ((some (i:Int)).getD 0) ((none:Option Int).getD ((l.length:Nat):Int))=some (l.drop i):=by
      simp only[KS,Kr,dy]
      rw[Ll ⟨by omega,by omega,KL _⟩,K9 l.length,Ki (JW _)]
      simp
     have hrange:qW W (fun(e:List UInt8×Bool) (s:List (List UInt8×Bool))=>some (Sum.inl (mh s e.fst true))) [] (fun s_1=>(dy l ((some (i:Int)).getD 0) ((none:Option Int).getD ((l.length:Nat):Int))).bind fun e_1=>(cR (fun s:List (List UInt8×Bool)×Int=>bif decide (s.snd<((e_1.length:Nat):Int)) then(cx e_1 s.snd).bind fun e=>(eX {fTag:=e.fTag,fName:=e.fName,fMin:=e.fMin,fMax:=e.fMax,fItems:=e.fItems}).bind fun x=>some (Sum.inl (mh s.fst x true,IntKind.i64.wrap (s.snd+1))) else dg (some (Sum.inl (s.fst,s.snd)))) (s_1,0)).bind (eh fun s_2=>(eo fu e.fItems s_2.fst true).bind fun x=>bif x then(dg (dg (some true)):Option (Int⊕(Int⊕Bool))) else some (Sum.inl ((i+1:Nat):Int))))=
       some (if zn k e.fItems (fun t=>S t||((e::l.drop (i+1)).map cH).contains t) true=true then .inr (.inr true) else .inl ((i+1:Nat):Int)):=by
      refine DW fun W' hp=> ?_
      rw[yh,hsl]
      simp only[JP]
      have hM0:∀ t,Aj (W'.foldl (fun M e=>mh M e.1 true) []) t=S t:=fun t=>by
       rw[BK,FZ hp,<-G8 hT,hW];rfl
      have hT0:=zr W' [] (fun p hp=>by cases hp)
      generalize W'.foldl (fun M e=>mh M e.1 true) []=M0 at hM0 hT0
      refine kS (X:=List (List UInt8×Bool)×Nat) (fun s=>(s.1,(s.2:Int))) (fun s=>(l.drop i).length - s.2) (fun s=>s.2<=(l.drop i).length/\(∀ t,Aj s.1 t=(S t||(((l.drop i).take s.2).map cH).contains t))/\∀ p∈s.1,p.2=true) ?_ (M0,0) ⟨Kf _,by simpa using hM0,hT0⟩
      rintro⟨M,j⟩ ⟨p1,p2,p3⟩
      simp only at p1 p2 p3⊢
      rcases J9 j (l.drop i).length with hj|hj
      ·obtain⟨x,hx⟩:=dI hj
       have hxm:x∈l:=KH (JU hx)
       have hlj:(l.drop i).length<=50:=by rw[K0];omega
       simp only[bl hj,J1,aB,hx,JP,FS (h.it hxm).1.ok,bY j oM]
       refine .inl ⟨(mh M (cH x) true,j+1),⟨hj,fun t=> ?_,zq p3 _⟩,by simp only;omega,rfl⟩
       simp only
       rw[wM,p2 t,cQ hx,J8]
       simp only[Ln,LH,JZ,KX,Kc,K1,J_,JS]
       constructor
       ·rintro(h|h|h)
        ·exact .inr (.inr h)
        ·exact .inl h
        ·exact .inr (.inl h)
       ·rintro(h|h|h)
        ·exact .inr (.inl h)
        ·exact .inr (.inr h)
        ·exact .inl h
      ·have hl':j=(l.drop i).length:=by omega
       subst hl'
       rw[Kx,hdr] at p2
       refine .inr ⟨_,by simp only[ak,J4];rfl, ?_⟩
       simp only[eh]
       rw[Dq k e.fItems fu M _ true ((h.it hm).2 hn) oM p2 p3]
       simp only[JP]
       cases zn k e.fItems (fun t=>S t||((e::l.drop (i+1)).map cH).contains t) true<;>rfl
     simp only[J4]
     rw[hrange]
     cases hc:zn k e.fItems (fun t=>S t||((e::l.drop (i+1)).map cH).contains t) true with
     |true=>rw[hc] at k2;exact .inr ⟨_,by rw[Ll rfl],by rw[k2];rfl⟩
     |false=>rw[hc] at k2;exact .inl ⟨i+1,⟨hi,by simpa using k2⟩,by omega,by rw[if_neg oS]⟩
   ·have hl':i=l.length:=by omega
    subst hl'
    rw[Le] at k2
    exact .inr ⟨_,by simp only[ak,J4];rfl,by rw[k2];rfl⟩
  refine kS (X:=List (List UInt8×Bool)×Nat) (fun s=>(s.1,(s.2:Int))) (fun s=>l.length - s.2) (fun s=>s.2<=l.length/\(∀ t,Aj s.1 t=((l.take s.2).map cH).contains t)/\(yf S g 0 (l.map cH)||md [] (l.map cH))=(yf S g s.2 ((l.drop s.2).map cH)||md ((l.take s.2).map cH) ((l.drop s.2).map cH))) ?_ ([],0) ⟨Kf _,fun t=>by simp[Aj,n7],by simp⟩
  rintro⟨M,i⟩ ⟨k1,k2,k3⟩
  simp only at k1 k2 k3⊢
  rcases J9 i l.length with hi|hi
  ·obtain⟨e,he⟩:=dI hi
   have hm:=JU he
   rw[nc he] at k3
   simp only[JZ,yf,md] at k3
   simp only[bl hi,J1,aB,he,JP,bY i oM,fh,FS (h.it hm).1.ok,aW,bG]
   have hd0:decide ((i:Int)=0)=decide (i=0):=by congr 1;apply propext;omega
   have e1:(n7 M (cH e)).getD false=((l.take i).map cH).contains (cH e):=k2 _
   have e2:(n7 W (cH e)).getD false=S (cH e):=hW _
   rw[hd0,e1,e2]
   have hsn:(l.take (i+1)).map cH=(l.take i).map cH++[cH e]:=by rw[cQ he];simp
   cases hc:(((l.take i).map cH).contains (cH e)||S (cH e)&& !(g&&decide (i=0))) with
   |true=>
    refine .inr ⟨_,rfl, ?_⟩
    unfold zn
    have:(yf S g 0 (l.map cH)||md [] (l.map cH))=true:=by
     rw[k3]
     simp only[J_,JO] at hc⊢
     rcases hc with hc|hc
     ·exact .inr (.inl hc)
     ·exact .inl (.inl ⟨hc.2,hc.1⟩)
    rw[this];rfl
   |false=>
    simp only[KR,KJ] at hc
    refine .inl ⟨(mh M (cH e) true,i+1),⟨hi,fun t=> ?_, ?_⟩,by simp only;omega,rfl⟩
    ·simp only
     rw[wM,k2 t,hsn,J8]
     simp only[Ln,Kc,K1,J_,JS]
     constructor
     ·rintro(h|h)
      ·exact .inr h
      ·exact .inl h
     ·rintro(h|h)
      ·exact .inr h
      ·exact .inl h
    ·rw[k3,hsn,hc.1]
     have:(!(g&&decide (i=0))&&S (cH e))=false:=by
      rcases hc.2 with hc|hc
      ·rw[hc];simp
      ·rw[hc];rfl
     rw[this]
     simp
  ·have hl':i=l.length:=by omega
   subst hl'
   rw[Le,Kx] at k3
   refine .inr ⟨_,by simp only[ak,J4];rfl, ?_⟩
   simp only[eh]
   unfold zn
   rw[k3]
   simp only[KX,yf,md,Kj]
   exact hlast
theorem te (s:ah) (h:I6 s):ir s=some (Ew s):=by
 have hFU:=Ab
 unfold ir ry;dsimp only
 rw[CC _ h.kind,CC _ h.version,Iq _ h.tags]
 simp only[JP,bG]
 unfold Ew
 by_cases c1:ct s.fKind=false\/ct s.fVersion=false
 ·rw[Ll c1,show(!ct s.fKind|| !ct s.fVersion)=true by simpa using c1];rfl
 rw[if_neg c1,show(!ct s.fKind|| !ct s.fVersion)=false by simpa using c1]
 simp only[J4]
 by_cases c2:n5 s.fDefs=0
 ·rw[if_neg (not_not_intro c2),Lb c2]
  have hdl:=yg c2
  have hit:=FY s (Eo c2) oM 8 0 s.fItems 0 FU oM oM oM oM oM h.items
  rw[show((0:Nat):Int)=0 from rfl] at hit
  rw[hit]
  simp only[J3,J4,JP]
  by_cases c3:(o6 (ay s.fDefs) 8 s.fItems 0 0).1=0
  ·rw[if_neg (not_not_intro c3),Lb c3]
   obtain⟨k1,k2⟩:=uK _ 8 s.fItems 0 0 c3
   obtain⟨b,W',q1,q2, -⟩:=Dp 8 s.fItems FU [] [] k1 oM (fun t=>by simp[Aj,n7])
   rw[q1]
   simp only[J3,J4,JP]
   rw[<-q2]
   cases b with
   |true=>rfl
   |false=>
    simp only[J4,Kg,KG]
    rw[Dq 8 s.fItems FU [] (fun _=>false) false k1 oM (fun t=>rfl) (fun p hp=>by cases hp)]
    simp only[JP]
    cases zn 8 s.fItems (fun _=>false) false<;>rfl
  ·rw[Ll c3,Lj c3];rfl
 ·rw[Ll c2,Lj c2];rfl
structure Is (p:aH):Prop where
 type:1<=p.fType/\p.fType<=5
 min:1<=p.fMin/\p.fMin<=1000
 max:1<=p.fMax/\p.fMax<=1000
 many:p.fCodes.length<=50
 codes:∀ c∈p.fCodes,c.length<=20
structure G9 (e:aY):Prop where
 most:1<=e.fMost/\e.fMost<=20
 many:e.fParts.length<=20
 parts:∀ p∈e.fParts,Is p
structure G_ (d:Df):Prop where
 tag:d.fTag.length<=6
 many:d.fElements.length<=50
 elems:∀ e∈d.fElements,G9 e
theorem I7 {p:aH} (h:sd p=0):Is p:=by
 unfold sd at h
 split at h
 ·cases h
 rename_i c1
 split at h
 ·cases h
 rename_i c2
 split at h
 ·cases h
 split at h
 ·cases h
 rename_i c4
 refine⟨by omega,by omega,by omega,by omega,fun c hc=> ?_⟩
 obtain⟨q,hq⟩:=pN h c hc
 unfold qe at hq
 split at hq
 ·rename_i hb
  simp only[Di,JO,JS] at hb
  omega
 ·cases hq
theorem I8 {e:aY} (h:uJ e=0):G9 e:=by
 unfold uJ at h
 split at h
 ·cases h
 rename_i c1
 split at h
 ·cases h
 split at h
 ·cases h
 rename_i c3
 refine⟨by omega,by omega,fun p hp=> ?_⟩
 obtain⟨q,hq⟩:=pN h p hp
 exact I7 hq
theorem wN {t:List UInt8} (h:vE t=true):t.length<=6:=by
 cases t with
 |nil=>simp
 |cons b l=>
  simp only[vE,JO,JS] at h
  simp only[JT];omega
theorem sf {t:List UInt8} (h:ct t=true):t.length<=40:=by
 cases t with
 |nil=>simp
 |cons b l=>
  simp only[ct,JO,JS] at h
  simp only[JT];omega
theorem I9 {l:List Df} (h:n5 l=0):∀ d∈l,G_ d:=by
 unfold n5 at h
 split at h
 ·cases h
 intro d hd
 obtain⟨q,hq⟩:=pN h d hd
 unfold wn at hq
 split at hq
 ·cases hq
 rename_i c1
 split at hq
 ·cases hq
 unfold Em at hq
 split at hq
 ·cases hq
 rename_i c2
 refine⟨wN (by cases ht:vE d.fTag with|true=>rfl|false=>exact absurd ht c1),by omega,fun e he=> ?_⟩
 obtain⟨q,hq⟩:=pN hq e he
 exact I8 hq
structure JG (s:ah):Prop where
 kind:s.fKind.length<=40
 version:s.fVersion.length<=40
 many:s.fDefs.length<=100
 defs:∀ d∈s.fDefs,G_ d
 items:Au (ay s.fDefs) 8 s.fItems
 cnt:k8 8 s.fItems<=300
 tags:∀ d∈s.fDefs,vE d.fTag=true
theorem I_ {s:ah} (h:Ew s=0):JG s:=by
 unfold Ew at h
 split at h
 ·cases h
 rename_i c1
 split at h
 ·rename_i c2;exact absurd h c2
 rename_i c2
 split at h
 ·rename_i c3;exact absurd h c3
 rename_i c3
 have c2:=Classical.not_not.1 c2
 have c3:=Classical.not_not.1 c3
 obtain⟨k1,k2⟩:=uK _ 8 s.fItems 0 0 c3
 have k3:=(se _ 8 (l:=s.fItems) (deep:=0) (many:=0) oM oM c3).2
 have hn:∀ t,¬ ct t=false->ct t=true:=fun t ht=>by
  cases hv:ct t with
  |true=>rfl
  |false=>exact absurd hv ht
 refine⟨sf (hn _ fun h=>c1 (.inl h)),sf (hn _ fun h=>c1 (.inr h)),yg c2,I9 c2,k1,by omega,fun d hd=> ?_⟩
 unfold n5 at c2
 split at c2
 ·cases c2
 obtain⟨q,hq⟩:=pN c2 d hd
 unfold wn at hq
 split at hq
 ·cases hq
 ·rename_i c;cases ht:vE d.fTag with
  |true=>rfl
  |false=>exact absurd ht c
def F0 (b:Bool):List UInt8:=bif b then[110,101,101,100,101,100] else[102,114,101,101]
def Gb (k:Int):List UInt8:=if k=1 then[116,101,120,116] else if k=2 then[97,108,112,104,97] else if k=3 then[100,105,103,105,116,115] else if k=4 then[110,117,109,98,101,114] else[100,97,121]
def uL (l:List (List UInt8)):List UInt8:=l.flatMap fun c=>32::c
def Ak (p:aH):List UInt8:=[32,32,32,32]++F0 p.fNeeded++[32]++Gb p.fType++[32]++Lib.itoa p.fMin++[32]++Lib.itoa p.fMax++uL p.fCodes++[10]
def BP (e:aY):List UInt8:=[32,32]++F0 e.fNeeded++[32]++Lib.itoa e.fMost++[10]
def sT (e:aY):List UInt8:=BP e++e.fParts.flatMap Ak
def BQ (d:Df):List UInt8:=[115,101,103,109,101,110,116,32]++d.fTag++[10]
def qJ (d:Df):List UInt8:=BQ d++d.fElements.flatMap sT
def wH (s:ah):List UInt8:=[115,99,104,101,109,101,32]++s.fKind++[32]++s.fVersion++[10]
def It (ind:List UInt8) (x:Sl):List UInt8:=ind++(if x.fName=[] then x.fTag else[103,114,111,117,112,32]++x.fName)++[32]++Lib.itoa x.fMin++[32]++Lib.itoa x.fMax++[10]
def Av (rec:List Sl->List UInt8->List UInt8) (ind:List UInt8) (x:Sl):List UInt8:=It ind x++(if x.fName=[] then[] else rec x.fItems (ind++[32,32]))
def sU:Nat->List Sl->List UInt8->List UInt8
 |0,_,_=>[]
 |k+1,l,ind=>l.flatMap (Av (sU k) ind)
def Al (s:ah):List UInt8:=wH s++s.fDefs.flatMap qJ++[105,116,101,109,115,10]++sU 8 s.fItems [32,32]
theorem sg {α:Type} (g:α->List UInt8) (B:Nat):∀ (l:List α),(∀ x∈l,(g x).length<=B)->(l.flatMap g).length<=l.length * B
 |[],_=>by simp
 |x::l,h=>by
  have h1:=h x (Ks ..)
  have h2:=sg g B l fun y hy=>h y (Ky _ hy)
  simp only[KV,JR,JT,KT,Nat.one_mul];omega
theorem eC {n:Int} (h: -9223372036854775808<=n/\n<=9223372036854775807):(Lib.itoa n).length<=21:=Lib.itoa_length_le n h.1 h.2
theorem pm {n:Int} (h: -9223372036854775808<=n/\n<=9223372036854775807):kP n=some (Lib.itoa n):=by
 unfold kP;rw[Ll (by first|exact h|(unfold i64;exact h)|(constructor<;>omega))]
theorem sD (b:Bool):(F0 b).length<=6:=by cases b<;>simp[F0]
theorem Am (k:Int):(Gb k).length<=6:=by
 unfold Gb;repeat' split
 all_goals simp
theorem wO {l:List (List UInt8)} (h:l.length<=50) (hc:∀ c∈l,c.length<=20):(uL l).length<=1050:=by
 have:=sg (fun c:List UInt8=>32::c) 21 l fun c hx=>by have:=hc c hx;simp;omega
 unfold uL;omega
theorem An {p:aH} (h:Is p):(Ak p).length<=1200:=by
 have h1:=sD p.fNeeded
 have h2:=Am p.fType
 have h3:=eC (n:=p.fMin) (by have:=h.min;omega)
 have h4:=eC (n:=p.fMax) (by have:=h.max;omega)
 have h5:=wO h.many h.codes
 unfold Ak
 simp only[JR,JT,JX];omega
theorem Dr {e:aY} (h:G9 e):(BP e).length<=31:=by
 have h1:=sD e.fNeeded
 have h3:=eC (n:=e.fMost) (by have:=h.most;omega)
 unfold BP
 simp only[JR,JT,JX];omega
theorem Ha {e:aY} (h:G9 e):(sT e).length<=24100:=by
 have h1:=Dr h
 have h2:=sg Ak 1200 e.fParts fun p hp=>An (h.parts p hp)
 have h3:=h.many
 unfold sT
 rw[JR]
 have:e.fParts.length * 1200<=20 * 1200:=KQ _ h3
 omega
theorem Hb {d:Df} (h:G_ d):(BQ d).length<=15:=by
 have:=h.tag
 unfold BQ
 simp only[JR,JT,JX];omega
theorem Hc {d:Df} (h:G_ d):(qJ d).length<=1206000:=by
 have h1:=Hb h
 have h2:=sg sT 24100 d.fElements fun e he=>Ha (h.elems e he)
 have h3:=h.many
 unfold qJ
 rw[JR]
 have:d.fElements.length * 24100<=50 * 24100:=KQ _ h3
 omega
theorem Hd {D:List UInt8->Bool} {x:Sl} (h:Im D x) {ind:List UInt8} (hi:ind.length<=40):(It ind x).length<=140:=by
 have h3:=eC (n:=x.fMin) (by have:=h.min;have:=h.max;omega)
 have h4:=eC (n:=x.fMax) (by have:=h.max;omega)
 unfold It
 have h5:(if x.fName=[] then x.fTag else[103,114,111,117,112,32]++x.fName).length<=46:=by
  split
  ·rename_i hn
   have hs:=h.ok.seg hn
   simp only[jR,JO] at hs
   have:=wN hs.1.1;omega
  ·rename_i hn
   have:=sf (h.name hn)
   simp only[JR,JT,JX];omega
 simp only[JR,JT,JX];omega
theorem uM {D:List UInt8->Bool}:∀ (k:Nat) (l:List Sl) (ind:List UInt8),Au D k l->ind.length+2 * k<=40->(sU k l ind).length<=k8 k l * 140
 |0,_,_,h,_=>h.elim
 |k+1,l,ind,h,hi=>by
  have key:∀ t:List Sl,(∀ x∈t,Im D x/\(x.fName≠[]->Au D k x.fItems))->(t.flatMap (Av (sU k) ind)).length<=((t.map fun x=>if x.fName=[] then 1 else 1+k8 k x.fItems).sum) * 140:=by
   intro t
   induction t with
   |nil=>intro _;simp
   |cons x t ih=>
    intro ht
    have h1:=ih fun y hy=>ht y (Ky _ hy)
    obtain⟨h2,h3⟩:=ht x (Ks ..)
    have h4:=Hd h2 (ind:=ind) oM
    simp only[KV,JR,JZ,List.sum_cons,KT]
    have h5:(Av (sU k) ind x).length<=(if x.fName=[] then 1 else 1+k8 k x.fItems) * 140:=by
     unfold Av
     rw[JR]
     by_cases hn:x.fName=[]
     ·rw[Ll hn,Ll hn];simp;omega
     ·rw[if_neg hn,if_neg hn]
      have:=uM k x.fItems (ind++[32,32]) (h3 hn) oT
      omega
    omega
  exact key l h.2.2
theorem Ds {s:ah} (h:JG s):(wH s).length<=100:=by
 have h1:=h.kind;have h2:=h.version
 unfold wH
 simp only[JR,JT,JX];omega
theorem Dt {s:ah} (h:JG s):(s.fDefs.flatMap qJ).length<=120600000:=by
 have h2:=sg qJ 1206000 s.fDefs fun d hd=>Hc (h.defs d hd)
 have:s.fDefs.length * 1206000<=100 * 1206000:=KQ _ h.many
 omega
theorem si {α:Type} {g:α->List UInt8} {l:List α} {i:Nat} {e:α} (h:l[i]?=some e):((l.take i).flatMap g).length+(g e).length<=(l.flatMap g).length:=by
 have:=BI g l (i+1)
 rw[cQ h,La] at this
 simpa using this
theorem dt {R:Type} {n:Nat} {m:Option R} (h:n<=1000000000000):jg (Bm n) m=m:=cd (by unfold Bm;rw[Ll h])
theorem He {X S A R:Type} {f:S->Option (S⊕A)} {k:A->Option R} {c:Option R} {s0:S} (st:X->S) (μ:X->Nat) (P:X->Prop) (x:X) (h0:st x=s0) (hx:P x)
  (h:∀ x,P x->(∃ y,P y/\μ y<μ x/\f (st x)=some (.inl (st y)))\/(∃ a,f (st x)=some (.inr a)/\k a=c)):(cR f s0).bind k=c:=by
 subst h0;exact kS st μ P h x hx
theorem F4 {X S A R:Type} {f:S->Option (S⊕A)} {k:A->Option R} {C:R->Prop} {s0:S} (st:X->S) (μ:X->Nat) (P:X->Prop) (x:X) (h0:st x=s0) (hx:P x)
  (h:∀ x,P x->(∃ y,P y/\μ y<μ x/\f (st x)=some (.inl (st y)))\/(∃ a c,f (st x)=some (.inr a)/\k a=some c/\C c)):∃ c,(cR f s0).bind k=some c/\C c:=by
 subst h0;exact iG st μ P h x hx
theorem Hf {X S A R:Type} {st:X->S} {μ:X->Nat} {P:X->Prop} {x:X} {k:A->Option R} {c:Option R} (C:S⊕A->Prop) {m:Option (S⊕A)} (hm:∃ r,m=some r/\C r)
  (hC:∀ r,C r->(∃ y,P y/\μ y<μ x/\r= .inl (st y))\/(∃ a,r= .inr a/\k a=c)):(∃ y,P y/\μ y<μ x/\m=some (.inl (st y)))\/(∃ a,m=some (.inr a)/\k a=c):=by
 obtain⟨r,rfl,h⟩:=hm
 rcases hC r h with⟨y,h1,h2,h3⟩|⟨a,h3,h4⟩
 ·exact .inl ⟨y,h1,h2,by rw[h3]⟩
 ·exact .inr ⟨a,by rw[h3],h4⟩
theorem Ja {X S A R:Type} {st:X->S} {Q:X->Prop} {k:A->Option R} {C:R->Prop} {μ:X->Nat} {n:Nat} {m m':Option (S⊕A)} (h:m=m')
  (g:(∃ y,Q y/\μ y<n/\m'=some (.inl (st y)))\/(∃ a c,m'=some (.inr a)/\k a=some c/\C c)):(∃ y,Q y/\μ y<n/\m=some (.inl (st y)))\/(∃ a c,m=some (.inr a)/\k a=some c/\C c):=by
 subst h;exact g
theorem lH {α T A:Type} (l:List α) (st:Nat->List α->T) {f:T->Option (T⊕A)} {a:A} {s0:T} (h0:st 0 []=s0)
  (hb:∀ (i:Nat) (e:α),l[i]?=some e->f (st i (l.take i))=some (.inl (st (i+1) (l.take i++[e]))))
  (he:f (st l.length l)=some (.inr a)):cR f s0=some a:=by subst h0;exact Bz l st hb he
theorem Du {k:Nat} {e:Sl} {l:List Sl} (h:e∈l) (hn:e.fName≠[]):1+k8 k e.fItems<=k8 (k+1) l:=by
 show _<=(l.map fun x=>if x.fName=[] then 1 else 1+k8 k x.fItems).sum
 induction l with
 |nil=>cases h
 |cons x l ih=>
  simp only[JZ,List.sum_cons]
  rcases J2.1 h with rfl|h
  ·rw[if_neg hn];omega
  ·have:=ih h
   omega
theorem wP (x:List UInt8) (r:List (List UInt8)) (h1:r.length<=1000) (h2:(x++uL r).length<=1000000):tI (x::r)=some (x++uL r++[10]):=by
 have hj:Lib.join (x::r) [32]=x++uL r:=by
  rw[Lib.join_cons];unfold Lib.joinTail uL
  rw[List.flatMap_def];rfl
 unfold tI eT;dsimp only
 unfold nZ
 rw[hj,Ll ⟨by simp only[JT];omega,by omega⟩,JP,dt (by simp only[JT,JX];omega)]
theorem CK {b s:List UInt8} (h:b.length+s.length<=100000000000):cf b s=some ((s.length:Int),b++s):=by
 unfold cf;rw[Ll oM]
theorem F5 (b:Bool):ja b=some (F0 b):=by
 unfold ja eT;dsimp only
 cases b<;>rfl
theorem Hg:jK=some [[],[116,101,120,116],[97,108,112,104,97],[100,105,103,105,116,115],[110,117,109,98,101,114],[100,97,121]]:=by
 unfold jK eT;dsimp only
theorem Iu {k:Int} (h:1<=k/\k<=5):cx [[],[116,101,120,116],[97,108,112,104,97],[100,105,103,105,116,115],[110,117,109,98,101,114],[100,97,121]] k=some (Gb k):=by
 have:k=1\/k=2\/k=3\/k=4\/k=5:=by omega
 rcases this with rfl|rfl|rfl|rfl|rfl<;>rfl
theorem Dv {D:List UInt8->Bool}:∀ (k:Nat) (l:List Sl) (ind b:List UInt8) (fu:Nat),Au D k l->ind.length+2 * k<=40->k<=fu->b.length+(sU k l ind).length<=10000000000->k8 k l<=300->
  fy fu b l ind=some ((),b++sU k l ind)
 |0,_,_,_,_,h,_,_,_,_=>h.elim
 |k+1,l,ind,b,0,_,_,h,_,_=>by omega
 |k+1,l,ind,b,fu+1,h,hi,hf,hb,hc=>by
  have h50:=h.len
  have hT:=uM (k+1) l ind h hi
  have hT':(sU (k+1) l ind).length<=42000:=by omega
  have hTe:sU (k+1) l ind=l.flatMap (Av (sU k) ind):=rfl
  rw[pd];unfold rI;dsimp only;simp only[pc]
  refine b0 (lH l (fun i p=>(b++p.flatMap (Av (sU k) ind),(i:Int))) (a:= .inl (b++sU (k+1) l ind,(l.length:Int))) oS (fun i e he=> ?_) ?_) rfl
  ·have hi':=b8 he
   have hm:=JU he
   obtain⟨h1,h2⟩:=h.it hm
   have hlen:=si (g:=Av (sU k) ind) he
   rw[<-hTe] at hlen
   have h3:=eC (n:=e.fMin) (by have:=h1.min;have:=h1.max;omega)
   have h4:=eC (n:=e.fMax) (by have:=h1.max;omega)
   simp only[bl hi',J1,aB,he,JP,bY i oM,pm (n:=e.fMin) (by have:=h1.min;have:=h1.max;omega),pm (n:=e.fMax) (by have:=h1.max;omega)]
   simp(disch:=first|omega|(simp only[JR,JT,JX];omega)) only[dt]
   by_cases hn:e.fName=[]
   ·have hs:=h1.ok.seg hn
    simp only[jR,JO] at hs
    have htl:=wN hs.1.1
    have he1:Av (sU k) ind e=ind++e.fTag++32::(Lib.itoa e.fMin++[32]++Lib.itoa e.fMax++[10]):=by
     unfold Av It;rw[Ll hn,Ll hn];simp
    rw[Lb hn]
    simp only[J1]
    simp(disch:=first|omega|(simp only[JR,JT,JX];omega)) only[dt]
    rw[<-he1,CK (by simp only[JR];omega)]
    simp
   ·have hnl:=sf (h1.name hn)
    have he1:Av (sU k) ind e=(ind++[103,114,111,117,112,32]++e.fName++32::(Lib.itoa e.fMin++[32]++Lib.itoa e.fMax++[10]))++sU k e.fItems (ind++[32,32]):=by
     unfold Av It;rw[if_neg hn,if_neg hn];simp
    rw[he1,JR] at hlen
    rw[Lj hn]
    simp only[J4]
    simp(disch:=first|omega|(simp only[JR,JT,JX];omega)) only[dt]
    rw[CK (by rw[JR];omega)]
    simp only[JP]
    have hck:k8 k e.fItems<=300:=by
     have:=Du hm (k:=k) hn
     omega
    rw[Dv k e.fItems (ind++[32,32]) _ fu (h2 hn) (by simp only[JR,JT,JX];omega) oM (by simp only[JR] at hlen⊢;omega) hck]
    simp[he1]
  ·simp only[ak,J4];rfl
theorem Iv (s:ah) (h:I6 s):pe s=some (if Ew s=0 then(if 100000<(Al s).length then([],2) else(Al s,0)) else([],Ew s)):=by
 have hFU:=Ab
 unfold pe rK;dsimp only
 rw[te s h]
 simp only[JP]
 by_cases c0:Ew s=0
 case neg=>rw[if_neg c0,Lj c0];rfl
 rw[Lb c0,Ll c0]
 have g:=I_ c0
 have g1:=g.kind
 have g2:=g.version
 have g3:=g.many
 have hl1:=Ds g
 have hl2:=Dt g
 have hl3:=uM 8 s.fItems [32,32] g.items oS
 have hl4:(sU 8 s.fItems [32,32]).length<=42000:=by have:=g.cnt;omega
 have hx:(Al s).length=(wH s).length+(s.fDefs.flatMap qJ).length+6+(sU 8 s.fItems [32,32]).length:=by
  unfold Al;simp only[JR,JT,JX]
 simp only[J3,J4]
 rw[wP _ [s.fKind,s.fVersion] oS (by simp only[uL,KV,Lq,JR,JT,JX];omega),JP,CK (by simp only[uL,KV,Lq,JR,JT,JX];omega),JP]
 refine He (X:=Nat) (fun i=>(wH s++(s.fDefs.take i).flatMap qJ,(i:Int))) (fun i=>s.fDefs.length - i) (fun i=>i<=s.fDefs.length) 0 (by simp[wH,uL]) (Kf _) ?_
 intro i hin
 rcases J9 i s.fDefs.length with hi|hi
 ·obtain⟨d,hd⟩:=dI hi
  have hm:=JU hd
  have hdo:=g.defs d hm
  have hpre:=si (g:=qJ) hd
  have hsn:(s.fDefs.take (i+1)).flatMap qJ=(s.fDefs.take i).flatMap qJ++qJ d:=by rw[cQ hd,La];simp
  have hdt:=hdo.tag
  have hdl:(qJ d).length=(BQ d).length+(d.fElements.flatMap sT).length:=by unfold qJ;rw[JR]
  have hdm:=hdo.many
  refine Hf (fun r=>r= .inl (wH s++(s.fDefs.take (i+1)).flatMap qJ,((i+1:Nat):Int))\/(r= .inr (.inr ([],2))/\100000<(Al s).length)) ?_ ?_
  ·simp only[bl hi,J1,aB,hd,JP,bY i oM]
   rw[wP _ [d.fTag] oS (by simp only[uL,KV,Lq,JR,JT,JX];omega),JP,CK (by simp only[uL,KV,Lq,JR,JT,JX];omega),JP]
   refine F4 (X:=Nat) (fun j=>(wH s++(s.fDefs.take i).flatMap qJ++BQ d++(d.fElements.take j).flatMap sT,(j:Int))) (fun j=>d.fElements.length - j) (fun j=>j<=d.fElements.length) 0 (by simp[BQ,uL]) (Kf _) ?_
   intro j hjn
   rcases J9 j d.fElements.length with hj|hj
   ·obtain⟨e,he⟩:=dI hj
    have heo:=hdo.elems e (JU he)
    have hpre2:=si (g:=sT) he
    have hsn2:(d.fElements.take (j+1)).flatMap sT=(d.fElements.take j).flatMap sT++sT e:=by rw[cQ he,La];simp
    have hem:=heo.many
    have hel:(sT e).length=(BP e).length+(e.fParts.flatMap Ak).length:=by unfold sT;rw[JR]
    have h3:=eC (n:=e.fMost) (by have:=heo.most;omega)
    have h5:=sD e.fNeeded
    have heh:32::32::(F0 e.fNeeded++uL [Lib.itoa e.fMost]++[10])=BP e:=by simp[BP,uL]
    generalize hB:wH s++(s.fDefs.take i).flatMap qJ++BQ d++(d.fElements.take j).flatMap sT=B
    have hBl:B.length=(wH s).length+((s.fDefs.take i).flatMap qJ).length+(BQ d).length+((d.fElements.take j).flatMap sT).length:=by rw[<-hB];simp only[JR]
    have hnx:wH s++(s.fDefs.take i).flatMap qJ++BQ d++(d.fElements.take (j+1)).flatMap sT=B++sT e:=by rw[hsn2,<-hB];simp
    simp only[bl hj,J1,aB,he,JP,bY j oM,F5,pm (n:=e.fMost) (by have:=heo.most;omega)]
    rw[wP _ [Lib.itoa e.fMost] oS (by simp only[uL,KV,Lq,JR,JT,JX];omega),JP,heh,CK oM,JP]
    simp(disch:=first|omega|(simp only[uL,KV,Lq,JR,JT,JX];omega)) only[dt]
    have hex:(BP e).length<=31:=Dr heo
    refine Ja (b0 (lH e.fParts (fun k p=>(B++BP e++p.flatMap Ak,(k:Int))) (a:= .inl (B++sT e,(e.fParts.length:Int))) oS (fun k p hp=> ?_) ?_) rfl) ?_
    ·have hk:=b8 hp
     have hpo:=heo.parts p (JU hp)
     have hpre3:=si (g:=Ak) hp
     have h6:=eC (n:=p.fMin) (by have:=hpo.min;omega)
     have h7:=eC (n:=p.fMax) (by have:=hpo.max;omega)
     have h8:=sD p.fNeeded
     have h9:=Am p.fType
     have h10:=wO hpo.many hpo.codes
     have h11:=hpo.many
     have h12:=An hpo
     have hpt:32::32::32::32::(F0 p.fNeeded++uL (Gb p.fType::Lib.itoa p.fMin::Lib.itoa p.fMax::p.fCodes)++[10])=Ak p:=by simp[Ak,uL]
     have hj12:uL (Gb p.fType::Lib.itoa p.fMin::Lib.itoa p.fMax::p.fCodes)=32::Gb p.fType++(32::Lib.itoa p.fMin++(32::Lib.itoa p.fMax++uL p.fCodes)):=by simp[uL]
     simp only[bl hk,J1,aB,hp,JP,bY k oM,Hg,Iu hpo.type,pm (n:=p.fMin) (by have:=hpo.min;omega),pm (n:=p.fMax) (by have:=hpo.max;omega)]
     rw[show jg (qx ([F0 p.fNeeded,Gb p.fType,Lib.itoa p.fMin,Lib.itoa p.fMax].length+p.fCodes.length))=id from funext fun m=>cd (by unfold qx;rw[Ll (by simp only[JT,JX];omega)]),id,
      wP _ _ (by simp only[JT];omega) (by rw[hj12];simp only[JR,JT];omega),JP,hpt,CK (by simp only[JR];omega)]
     rw[dt (by rw[hj12];simp only[JR,JT,JX];omega)]
     simp
    ·simp only[ak,J4]
     rw[show B++sT e=B++BP e++e.fParts.flatMap Ak by simp[sT]];rfl
    ·simp only[eh,gJ,JP]
     by_cases c1:100000<(B++sT e).length
     ·rw[show decide (100000<(((B++sT e).length:Nat):Int))=true by simp only[JS];omega]
      exact .inr ⟨_,_,rfl,rfl,.inr ⟨rfl,by simp only[JR] at c1;omega⟩⟩
     ·rw[show decide (100000<(((B++sT e).length:Nat):Int))=false by simp only[Kp];omega]
      exact .inl ⟨j+1,hj,by omega,by rw[hnx];rfl⟩
   ·have hl':j=d.fElements.length:=by omega
    subst hl'
    refine .inr ⟨_,_,by simp only[ak,J4];rfl,rfl,.inl ?_⟩
    rw[hsn,Kx]
    simp[qJ]
  ·rintro r (rfl|⟨rfl,hr⟩)
   ·exact .inl ⟨i+1,hi,by omega,rfl⟩
   ·exact .inr ⟨_,rfl,by rw[Ll hr];rfl⟩
 ·have hl':i=s.fDefs.length:=by omega
  subst hl'
  refine .inr ⟨_,by simp only[ak,J4];rfl, ?_⟩
  simp only[eh,Kx]
  rw[CK (by simp only[JR,JT,JX];omega),JP]
  simp only
  rw[Dv 8 s.fItems [32,32] _ FU g.items oS oM (by simp only[JR,JT,JX];omega) g.cnt]
  simp only[JP,gJ,ju]
  by_cases c1:100000<(Al s).length
  ·rw[Ll c1]
   have:decide (100000<(((wH s++s.fDefs.flatMap qJ++[105,116,101,109,115,10]++sU 8 s.fItems [32,32]).length:Nat):Int))=true:=by
    have:(100000:Int)<(((Al s).length:Nat):Int):=by omega
    simpa[Al] using this
   rw[this];rfl
  ·rw[if_neg c1]
   have:decide (100000<(((wH s++s.fDefs.flatMap qJ++[105,116,101,109,115,10]++sU 8 s.fItems [32,32]).length:Nat):Int))=false:=by
    have:¬ (100000:Int)<(((Al s).length:Nat):Int):=by omega
    simpa[Al] using this
   rw[this];rfl
theorem F6 (b:Bool):dS b=some (F0 b):=by
 unfold dS j4;dsimp only
 cases b<;>rfl
theorem Iw {k:Int} (h:1<=k/\k<=5):ew k=some (Gb k):=by
 have:k=1\/k=2\/k=3\/k=4\/k=5:=by omega
 unfold ew j4;dsimp only
 rcases this with rfl|rfl|rfl|rfl|rfl<;>rfl
theorem F7 (fu:Nat) (ind:List UInt8):bR (fu+1) [] ind=some []:=by
 rw[eV];unfold oQ;dsimp only;simp only[eU]
 refine b0 (a:= .inl ([],0)) ?_ rfl
 rw[bM];rfl
theorem Dw {D:List UInt8->Bool}:∀ (k:Nat) (l:List Sl) (ind:List UInt8) (fu:Nat),Au D k l->ind.length+2 * k<=40->k+1<=fu->k8 k l<=300->
  bR fu l ind=some (sU k l ind)
 |0,_,_,_,h,_,_,_=>h.elim
 |k+1,l,ind,0,_,_,h,_=>by omega
 |k+1,l,ind,1,_,_,h,_=>by omega
 |k+1,l,ind,fu+2,h,hi,hf,hc=>by
  have h50:=h.len
  have hT:=uM (k+1) l ind h hi
  have hT':(sU (k+1) l ind).length<=42000:=by omega
  have hTe:sU (k+1) l ind=l.flatMap (Av (sU k) ind):=rfl
  rw[eV];unfold oQ;dsimp only;simp only[eU]
  refine b0 (lH l (fun i p=>(p.flatMap (Av (sU k) ind),(i:Int))) (a:= .inl (sU (k+1) l ind,(l.length:Int))) oS (fun i e he=> ?_) ?_) rfl
  ·have hi':=b8 he
   have hm:=JU he
   obtain⟨h1,h2⟩:=h.it hm
   have hlen:=si (g:=Av (sU k) ind) he
   rw[<-hTe] at hlen
   have h3:=eC (n:=e.fMin) (by have:=h1.min;have:=h1.max;omega)
   have h4:=eC (n:=e.fMax) (by have:=h1.max;omega)
   simp only[bl hi',J1,aB,he,JP,bY i oM,pm (n:=e.fMin) (by have:=h1.min;have:=h1.max;omega),pm (n:=e.fMax) (by have:=h1.max;omega)]
   by_cases hn:e.fName=[]
   ·have hs:=h1.ok.seg hn
    simp only[jR,JO,JS] at hs
    have htl:=wN hs.1.1
    have he1:Av (sU k) ind e=ind++e.fTag++[32]++Lib.itoa e.fMin++[32]++Lib.itoa e.fMax++[10]:=by
     unfold Av It;rw[Ll hn,Ll hn];simp
    rw[Lb hn,hs.2,F7]
    simp only[J3,J4,JP]
    rw[he1] at hlen
    simp only[JR,JT,JX] at hlen
    simp(disch:=first|omega|(simp only[JR,JT,JX];omega)) only[dt]
    simp[he1]
   ·have hnl:=sf (h1.name hn)
    have he1:Av (sU k) ind e=(ind++103::114::111::117::112::32::e.fName++[32]++Lib.itoa e.fMin++[32]++Lib.itoa e.fMax++[10])++sU k e.fItems (ind++[32,32]):=by
     unfold Av It;rw[if_neg hn,if_neg hn];simp
    have hck:k8 k e.fItems<=300:=by
     have:=Du hm (k:=k) hn
     omega
    rw[Lj hn,Dw k e.fItems (ind++[32,32]) (fu+1) (h2 hn) (by simp only[JR,JT,JX];omega) oM hck]
    simp only[Kt,J1,JP]
    rw[he1] at hlen
    simp only[JR,JT,JX] at hlen
    simp(disch:=first|omega|(simp only[JR,JT,JX];omega)) only[dt]
    simp[he1]
  ·simp only[ak,J4];rfl
theorem Ix (s:ah) (h:I6 s):gj s=some (if Ew s=0 then(if 100000<(Al s).length then([],2) else(Al s,0)) else([],Ew s)):=by
 have hFU:=Ab
 unfold gj rL;dsimp only
 rw[tc s h]
 simp only[JP]
 by_cases c0:Ew s=0
 case neg=>rw[if_neg c0,Lj c0];rfl
 rw[Lb c0,Ll c0]
 have g:=I_ c0
 have g1:=g.kind
 have g2:=g.version
 have g3:=g.many
 have hl1:=Ds g
 have hl2:=Dt g
 have hl3:=uM 8 s.fItems [32,32] g.items oS
 have hl4:(sU 8 s.fItems [32,32]).length<=42000:=by have:=g.cnt;omega
 have hx:(Al s).length=(wH s).length+(s.fDefs.flatMap qJ).length+6+(sU 8 s.fItems [32,32]).length:=by
  unfold Al;simp only[JR,JT,JX]
 have hhd:115::99::104::101::109::101::32::(s.fKind++[32]++s.fVersion++[10])=wH s:=by simp[wH]
 simp only[J3,J4,hhd]
 simp(disch:=first|omega|(simp only[JR,JT,JX];omega)) only[dt]
 refine b0 (lH s.fDefs (fun i p=>(wH s++p.flatMap qJ,(i:Int))) (a:= .inl (wH s++s.fDefs.flatMap qJ,(s.fDefs.length:Int))) oS (fun i d hd=> ?_) ?_) ?_
 ·have hi:=b8 hd
  have hdo:=g.defs d (JU hd)
  have hpre:=si (g:=qJ) hd
  have hdt:=hdo.tag
  have hdl:(qJ d).length=(BQ d).length+(d.fElements.flatMap sT).length:=by unfold qJ;rw[JR]
  have hdm:=hdo.many
  have hdh:115::101::103::109::101::110::116::32::(d.fTag++[10])=BQ d:=by simp[BQ]
  simp only[bl hi,J1,aB,hd,JP,bY i oM,hdh]
  simp(disch:=first|omega|(simp only[JR,JT,JX];omega)) only[dt]
  refine b0 (lH d.fElements (fun j p=>(wH s++(s.fDefs.take i).flatMap qJ++BQ d++p.flatMap sT,(j:Int))) (a:= .inl (wH s++(s.fDefs.take i).flatMap qJ++qJ d,(d.fElements.length:Int))) oS (fun j e he=> ?_) ?_) (by simp[eh])
  ·have hj:=b8 he
   have heo:=hdo.elems e (JU he)
   have hpre2:=si (g:=sT) he
   have hem:=heo.many
   have hel:(sT e).length=(BP e).length+(e.fParts.flatMap Ak).length:=by unfold sT;rw[JR]
   have h3:=eC (n:=e.fMost) (by have:=heo.most;omega)
   have h5:=sD e.fNeeded
   have heh:32::32::(F0 e.fNeeded++[32]++Lib.itoa e.fMost++[10])=BP e:=by simp[BP]
   simp only[bl hj,J1,aB,he,JP,bY j oM,F6,pm (n:=e.fMost) (by have:=heo.most;omega),heh]
   generalize hB:wH s++(s.fDefs.take i).flatMap qJ++BQ d++(d.fElements.take j).flatMap sT=B
   have hBl:B.length=(wH s).length+((s.fDefs.take i).flatMap qJ).length+(BQ d).length+((d.fElements.take j).flatMap sT).length:=by rw[<-hB];simp only[JR]
   simp(disch:=first|omega|(simp only[JR,JT,JX];omega)) only[dt]
   refine b0 (lH e.fParts (fun k p=>(B++BP e++p.flatMap Ak,(k:Int))) (a:= .inl (B++sT e,(e.fParts.length:Int))) oS (fun k p hp=> ?_) ?_) (by simp[eh,<-hB])
   ·have hk:=b8 hp
    have hpo:=heo.parts p (JU hp)
    have hpre3:=si (g:=Ak) hp
    have h6:=eC (n:=p.fMin) (by have:=hpo.min;omega)
    have h7:=eC (n:=p.fMax) (by have:=hpo.max;omega)
    have h8:=sD p.fNeeded
    have h9:=Am p.fType
    have h10:=wO hpo.many hpo.codes
    have h11:=hpo.many
    have h12:=An hpo
    simp only[bl hk,J1,aB,hp,JP,bY k oM,Iw hpo.type,pm (n:=p.fMin) (by have:=hpo.min;omega),pm (n:=p.fMax) (by have:=hpo.max;omega)]
    simp(disch:=first|omega|(simp only[JR,JT,JX];omega)) only[dt]
    generalize hP:32::32::32::32::(F0 p.fNeeded++[32]++Gb p.fType++[32]++Lib.itoa p.fMin++[32]++Lib.itoa p.fMax)=P
    have hPt:Ak p=P++uL p.fCodes++[10]:=by rw[<-hP];simp[Ak]
    have hPl:(Ak p).length=P.length+(uL p.fCodes).length+1:=by rw[hPt];simp only[JR,JT,JX]
    refine b0 (lH p.fCodes (fun m q=>(B++BP e++(e.fParts.take k).flatMap Ak++P++uL q,(m:Int))) (a:= .inl (B++BP e++(e.fParts.take k).flatMap Ak++P++uL p.fCodes,(p.fCodes.length:Int))) (by simp[uL]) (fun m c hcm=> ?_) ?_) ?_
    ·have hmm:=b8 hcm
     have hcc:=hpo.codes c (JU hcm)
     have hpre4:(uL (p.fCodes.take m)).length<=1050:=wO (by rw[Ko];omega) fun c hc=>hpo.codes c (Kl hc)
     simp only[bl hmm,J1,aB,hcm,JP,bY m oM]
     simp(disch:=first|omega|(simp only[JR,JT,JX];omega)) only[dt]
     simp[uL]
    ·simp only[ak,J4];rfl
    ·simp only[eh]
     simp(disch:=first|omega|(simp only[JR,JT,JX];omega)) only[dt]
     simp[hPt]
   ·simp only[ak,J4]
    rw[show B++sT e=B++BP e++e.fParts.flatMap Ak by simp[sT]];rfl
  ·simp only[ak,J4,aB]
   rw[show wH s++(s.fDefs.take i).flatMap qJ++qJ d=wH s++(s.fDefs.take i).flatMap qJ++BQ d++d.fElements.flatMap sT by simp[qJ]];rfl
 ·simp only[ak,J4];rfl
 ·simp only[eh]
  rw[Dw 8 s.fItems [32,32] FU g.items oS oM g.cnt]
  simp only[JP]
  simp(disch:=first|omega|(simp only[JR,JT,JX];omega)) only[dt]
  have htx:wH s++s.fDefs.flatMap qJ++105::116::101::109::115::10::sU 8 s.fItems [32,32]=Al s:=by simp[Al]
  rw[htx]
  by_cases c1:100000<(Al s).length
  ·rw[Ll c1,show decide ((100000:Int)<(((Al s).length:Nat):Int))=true by simp only[JS];omega];rfl
  ·rw[if_neg c1,show decide ((100000:Int)<(((Al s).length:Nat):Int))=false by simp only[Kp];omega];rfl
theorem CF {S A:Type} {f:S->Option (S⊕A)} {s s':S} {r:Option A} (h:f s=some (.inl s')) (hr:cR f s'=r):cR f s=r:=by rw[bM,h];exact hr
theorem BC {S A:Type} {f:S->Option (S⊕A)} {s:S} {a:A} (h:f s=some (.inr a)):cR f s=some a:=by rw[bM,h]
theorem Ah {A R:Type} {m:Option A} {k:A->Option R} {a:A} {r:Option R} (h:m=some a) (hk:k a=r):m.bind k=r:=by rw[h];exact hk
theorem GY:oX [66,71,77]=some true:=by rw[FN _ oD];rfl
theorem GZ:iB [{fTag:=[66,71,77],fElements:=[]}]=some 0:=by
 unfold iB dG;dsimp only
 refine b0 (a:= .inl 1) (CF (s':=1) ?_ (BC rfl)) rfl
 simp only[cx]
 refine b0 (a:= .inl ()) (BC rfl) rfl
theorem CG:bL {fmany:=0} {fName:=[],fSegment:={fTag:=[66,71,77],fElements:=[]},fKids:=[]} 0=some (0,{fmany:=1}):=by
 unfold bL rN;dsimp only
 rw[GZ];rfl
theorem FT:jP [{fName:=[],fSegment:={fTag:=[66,71,77],fElements:=[]},fKids:=[]}]=some 0:=by
 unfold jP rT;dsimp only
 unfold eW rP;dsimp only
 refine Ah (a:=(0,{fmany:=1})) (b0 (a:= .inl (1,1)) (CF (s':=(1,1)) ?_ (BC rfl)) rfl) rfl
 show(bL {fmany:=0} {fName:=[],fSegment:={fTag:=[66,71,77],fElements:=[]},fKids:=[]} 0).bind _=_
 rw[CG];rfl
theorem FV:fP [66,71,77] 47=some (-1):=by
 unfold fP j7;dsimp only
 unfold dH dG;dsimp only
 refine Ah (a:= -1) (b0 (a:= .inl (-1)) (CF (s':=1) rfl (CF (s':=0) rfl (CF (s':= -1) rfl (BC rfl)))) rfl) rfl
theorem G4:nR [66,71,77]=some ({fNames:=[],fTag:=[66,71,77],fElement:=0,fPart:=0},true):=by
 have hs:jx [66,71,77] [46]=some [[66,71,77]]:=by
  unfold jx
  rw[Ll oD]
  decide
 unfold nR rO;dsimp only
 rw[show UInt8.ofNat (Int.toNat 47)=47 from rfl,FV,JP,hs]
 simp only[show decide ((0:Int)<= -1)=false from rfl,J4,JP,show cx [[(66:UInt8),71,77]] 0=some [66,71,77] from rfl,GY]
 refine b0 (a:= .inl ()) (BC rfl) rfl
theorem Ek:kN [{fName:=[],fSegment:={fTag:=[66,71,77],fElements:=[]},fKids:=[]}] {fNames:=[],fTag:=[66,71,77],fElement:=0,fPart:=0}=some [[66,71,77]]:=by
 unfold kN j7;dsimp only
 unfold qq dG;dsimp only
 refine Ah (b0 (a:= .inl ()) (BC rfl) rfl) ?_
 refine b0 (a:= .inl ([[66,71,77]],1)) (CF (s':=([[66,71,77]],1)) (b0 (a:= .inl ([[66,71,77]],1)) (CF (s':=([[66,71,77]],1)) rfl (BC rfl)) rfl) (BC rfl)) rfl
theorem El:fQ=some true:=by
 unfold fQ rW;dsimp only
 unfold s_ rV;dsimp only
 unfold nS rR;dsimp only
 rw[FT,G4]
 show(((kN _ {fNames:=[],fTag:=[66,71,77],fElement:=0,fPart:=0}).bind _).bind _)=_
 rw[Ek];rfl
theorem CH (s:ah) (h:I6 s):bk s=some true:=by
 unfold bk rX;dsimp only
 rw[Iv s h,Ix s h,te s h,tc s h,El]
 simp only[JP,aW,Lo,Bool.and_self]
theorem Iy:∀ {b:ab},iH b->At b:=by
 intro b h
 induction h with
 |mk ht hn _ _ hl hk ih=>exact .mk ht hn hl ih
theorem BL (s:ah) (h:pl s):bk s=some true:=
 CH s ⟨h.1,h.2.1,fun d hd=>(h.2.2.1.2 d hd).1,fun x hx=>Iy (h.2.2.2.2 x hx)⟩
end Go.Proofs.YtgocgdgknpdknaaGreatDoor
