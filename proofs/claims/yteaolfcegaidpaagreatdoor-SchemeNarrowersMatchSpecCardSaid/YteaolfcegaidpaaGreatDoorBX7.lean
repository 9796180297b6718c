/-
  Laws on the way to the theorem.
-/
import Derived.Test.YteaolfcegaidpaaGreatDoorBX6
namespace Go.Proofs.YteaolfcegaidpaaGreatDoor
open Go.RowKit
set_option linter.unusedSimpArgs false
set_option linter.unusedVariables false
theorem sq (S:ae):(⟨S.fKind,S.fVersion,S.fDefs,S.fItems⟩:ae)=S:=rfl
theorem KT (S:ae) (hr:xi S.fDefs) (hs:S.fDefs.length<=1000) {fu:Nat} {rec:List Sl->Int->Int×Int} {deep:Nat} {m:Int} {e:Sl} (hd:deep<=7) (h0:0<=m) (h1:m<=300) (hb:CT e)
  (hrec:e.fName≠[]->m+1<=300->deep<=6->bm fu ⟨S,m+1⟩ e.fItems ((deep:Int)+1)=some ((rec e.fItems (m+1)).1,⟨S,(rec e.fItems (m+1)).2⟩)):
  bL (fu+1) ⟨S,m⟩ e (deep:Int)=some ((sZ (aq S.fDefs) rec deep m e).1,⟨S,(sZ (aq S.fDefs) rec deep m e).2⟩):=by
 rw[jP];unfold n9;dsimp only;simp only[jM]
 obtain⟨d,hdf⟩:=Jy S e.fTag hr hs
 simp only[dB,JY e hb,LB e hb,EW _ hb.name,zb,bz,aO,L8,hdf]
 rw[ge (m+1) oM oM,ge ((deep:Int)+1) oM oM]
 rcases D4 (aq S.fDefs) rec deep m e with⟨c1,q⟩|⟨c1,c2,q⟩|⟨c1,c2,c3,q⟩|⟨c1,c2,c3,c4,q⟩|⟨c1,c2,c3,c4,c5,q⟩|⟨c1,c2,c3,c4,c5,q⟩
 ·rw[q,show(decide (300<m+1)||decide (6<(deep:Int)))=true by simpa using c1];rfl
 ·rw[q,show(decide (300<m+1)||decide (6<(deep:Int)))=false by simpa using c1]
  have:(!mj e&& !pr e)=true:=by simpa using c2
  rw[this];rfl
 all_goals
  have h2:(!mj e&& !pr e)=false:=by
   cases hv:mj e with
   |true=>rfl
   |false=>rw[hv] at c2;simp only[MB] at c2;rw[c2];rfl
  have h1':(decide (300<m+1)||decide (6<(deep:Int)))=false:=by simpa using c1
 ·rw[q,h1',h2,Ni c3.1,c3.2];rfl
 all_goals
  have h3:(!decide (e.fName=[])&& !dN e.fName)=false:=by
   by_cases hv:e.fName=[]
   ·rw[M9 hv];rfl
   ·have:dN e.fName=true:=by
     cases hq:dN e.fName with
     |true=>rfl
     |false=>exact absurd ⟨hv,hq⟩ c3
    rw[this];simp
 ·rw[q,h1',h2,h3,M9 c4.1,c4.2];rfl
 all_goals
  have h4':(decide (e.fName=[])&& !aq S.fDefs e.fTag)=false:=by
   by_cases hv:e.fName=[]
   ·have:aq S.fDefs e.fTag=true:=by
     cases hq:aq S.fDefs e.fTag with
     |true=>rfl
     |false=>exact absurd ⟨hv,hq⟩ c4
    rw[this];simp
   ·rw[Ni hv];rfl
 ·have h5':(decide (e.fMin<0)||decide (e.fMax<e.fMin)||(decide (e.fMax<1)||decide (1000<e.fMax)))=true:=by
   simp only[Mu,Ma];omega
  rw[q,h1',h2,h3,h4',h5'];rfl
 ·have h5':(decide (e.fMin<0)||decide (e.fMax<e.fMin)||(decide (e.fMax<1)||decide (1000<e.fMax)))=false:=by
   simp only[ML,MA];omega
  rw[q,h1',h2,h3,h4',h5']
  simp only[Mg]
  by_cases hv:e.fName=[]
  ·rw[M9 hv,NH hv];rfl
  ·rw[Ni hv,NY hv]
   simp only[Mg]
   have:=hrec hv oM oM
   show(bm fu ⟨S,m+1⟩ e.fItems ((deep:Int)+1)).bind _=_
   rw[this];rfl
theorem Ix (S:ae) (hr:xi S.fDefs) (hs:S.fDefs.length<=1000):∀ (k:Nat) (deep:Nat) (l:List Sl) (many:Int) (fu:Nat),deep<=7->8<=k+deep->2 * k+1<=fu->0<=many->many<=300->(∀ b∈l,CT b)->
  bm fu ⟨S,many⟩ l (deep:Int)=some ((qS (aq S.fDefs) k l deep many).1,⟨S,(qS (aq S.fDefs) k l deep many).2⟩)
 |0,deep,_,_,_,h1,h2,_,_,_,_=>by omega
 |k+1,deep,l,many,0,_,_,h3,_,_,_=>by omega
 |k+1,deep,l,many,1,_,_,h3,_,_,_=>by omega
 |k+1,deep,l,many,fu+2,h1,h2,h3,h4,h5,hl=>by
  rw[jN];unfold n9;dsimp only;simp only[jO]
  simp only[dB,DY]
  unfold qS LE
  by_cases c0:l=[]
  ·rw[M9 c0,NH c0];rfl
  rw[Ni c0,NY c0]
  simp only[Mg]
  by_cases c50:50<l.length
  ·rw[NH c50,show decide (50<((l.length:Nat):Int))=true by simp;omega];rfl
  rw[NY c50,show decide (50<((l.length:Nat):Int))=false by simp;omega]
  simp only[Mg]
  have hfb:∀ m b,0<=m->(sZ (aq S.fDefs) (fun it m=>qS (aq S.fDefs) k it ((deep:Int)+1) m) deep m b).1=0->m<=(sZ (aq S.fDefs) (fun it m=>qS (aq S.fDefs) k it ((deep:Int)+1) m) deep m b).2/\(sZ (aq S.fDefs) (fun it m=>qS (aq S.fDefs) k it ((deep:Int)+1) m) deep m b).2<=300:=fun m b hm hx=>by
   obtain⟨q1, -, -,q4⟩:=FI hx
   rcases q4 with⟨_,q⟩|⟨_,q⟩
   ·rw[q];exact⟨by simp only;omega,by simp only;omega⟩
   ·rw[q] at hx⊢
    obtain⟨k1,k2⟩:=uD _ k oM oM hx
    exact⟨by omega,k2⟩
  refine dj (D2 l (fun i (s:Int)=>(S,s,(i:Int))) (fun m e=>if(sZ (aq S.fDefs) (fun it m=>qS (aq S.fDefs) k it ((deep:Int)+1) m) deep m e).1=0 then .inl (sZ (aq S.fDefs) (fun it m=>qS (aq S.fDefs) k it ((deep:Int)+1) m) deep m e).2 else .inr (.inr ((sZ (aq S.fDefs) (fun it m=>qS (aq S.fDefs) k it ((deep:Int)+1) m) deep m e).1,⟨S,(sZ (aq S.fDefs) (fun it m=>qS (aq S.fDefs) k it ((deep:Int)+1) m) deep m e).2⟩)))
   (fun m=> .inl (S,m,(l.length:Int))) (fun m=>0<=m/\m<=300) (fun i e m he hm=> ?_) (fun e m m' he hm hg=> ?_) (fun m hm=> ?_) many ⟨h4,h5⟩) ?_
  ·have hi:=bD he
   have hmem:=Mb he
   have hb:=hl e hmem
   have hit:=KT S hr hs (fu:=fu) (rec:=fun it m=>qS (aq S.fDefs) k it ((deep:Int)+1) m) (deep:=deep) (m:=m) h1 hm.1 hm.2 hb (fun hn hm1 hd6=>by
    have:=Ix S hr hs k (deep+1) e.fItems (m+1) fu oM oM oM oM hm1 hb.items
    rw[show((deep+1:Nat):Int)=(deep:Int)+1 by omega] at this
    exact this)
   simp only[bp hi,Mf,aw,he,L8,bN i oM]
   show(bL (fu+1) ⟨S,m⟩ e (deep:Int)).bind _=_
   rw[hit]
   simp only[L8]
   by_cases hz:(sZ (aq S.fDefs) (fun it m=>qS (aq S.fDefs) k it ((deep:Int)+1) m) deep m e).1=0
   ·rw[NH hz,M9 hz];rfl
   ·rw[NY hz,Ni hz];rfl
  ·by_cases hf:(sZ (aq S.fDefs) (fun it m=>qS (aq S.fDefs) k it ((deep:Int)+1) m) deep m e).1=0
   ·rw[NH hf] at hg
    cases hg
    have:=hfb m e hm.1 hf
    exact⟨by omega,this.2⟩
   ·rw[NY hf] at hg;cases hg
  ·simp only[an,Mg];rfl
  ·have run2:∀ (l:List Sl) (many:Int) (fin:Int->(ae×Int×Int)⊕(Int×ax)) (g:Int->Sl->Int×Int),A3 (fun s e=>if(g s e).1=0 then(.inl (g s e).2:Int⊕((ae×Int×Int)⊕(Int×ax))) else .inr (.inr ((g s e).1,⟨S,(g s e).2⟩))) fin l many=if(j5 g l many).1=0 then fin (j5 g l many).2 else .inr ((j5 g l many).1,⟨S,(j5 g l many).2⟩):=by
    intro l
    induction l with
    |nil=>intro many fin g;simp[A3,j5]
    |cons b l ih=>
     intro many fin g
     unfold A3 j5
     by_cases hb:(g many b).1=0
     ·simp only[hb,Nr];exact ih _ _ _
     ·simp only[hb,MZ]
   rw[run2]
   by_cases hf:(j5 (sZ (aq S.fDefs) (fun it m=>qS (aq S.fDefs) k it ((deep:Int)+1) m) deep) l many).1=0
   ·rw[NH hf]
    show some (0,_)=_
    rw[hf]
   ·rw[NY hf];rfl
def CN (W:List (List UInt8×Bool)) (t:List UInt8):Bool:=(jB W t).getD false
theorem BU:∀ (W:List (List UInt8×Bool)) (k:List UInt8) (v:Bool) (t:List UInt8),jB (kA W k v) t=if t=k then some v else jB W t
 |[],k,v,t=>by simp[kA,jB]
 |p::W,k,v,t=>by
  unfold kA
  by_cases hk:k=p.1
  ·rw[NH hk]
   simp only[jB]
   by_cases ht:t=k
   ·rw[NH ht,NH ht]
   ·rw[NY ht,NY ht,NY (fun h=>ht (h.trans hk.symm))]
  ·rw[NY hk]
   simp only[jB]
   by_cases ht:t=p.1
   ·rw[NH ht,NY (fun h=>hk (h.symm.trans ht)),NH ht]
   ·rw[NY ht,BU W k v t,NY ht]
theorem y6 (W:List (List UInt8×Bool)) (k t:List UInt8):CN (kA W k true) t=(decide (t=k)||CN W t):=by
 unfold CN
 rw[BU]
 by_cases h:t=k<;>simp[h]
theorem BV {W:List (List UInt8×Bool)} (h:∀ p∈W,p.2=true) (k:List UInt8):∀ p∈kA W k true,p.2=true:=by
 induction W with
 |nil=>intro p hp;simp[kA] at hp;rw[hp]
 |cons q W ih=>
  intro p hp
  unfold kA at hp
  split at hp
  ·rcases Ml.1 hp with rfl|hp
   ·rfl
   ·exact h p (M3 _ hp)
  ·rcases Ml.1 hp with rfl|hp
   ·exact h _ (MP ..)
   ·exact ih (fun p hp=>h p (M3 _ hp)) p hp
theorem Jz {W:List (List UInt8×Bool)} (h:∀ p∈W,p.2=true) (t:List UInt8):CN W t=W.any fun p=>decide (p.1=t):=by
 unfold CN
 induction W with
 |nil=>rfl
 |cons q W ih=>
  simp only[jB,List.any_cons]
  by_cases ht:t=q.1
  ·rw[NH ht,M9 ht.symm,h q (MP ..)];rfl
  ·rw[NY ht,Ni (fun h=>ht h.symm),ih fun p hp=>h p (M3 _ hp)];rfl
theorem Aw:∀ (a b seen:List (List UInt8)),ik seen (a++b)=(ik seen a||ik (seen++a) b)
 |[],b,seen=>by simp[ik]
 |t::a,b,seen=>by
  simp only[Mn,ik,Aw a b (seen++[t]),Bool.or_assoc,Mz,Mn,Mq]
theorem FN {D:List UInt8->Bool}:∀ (k:Nat) (l:List Sl) (fu:Nat) (W:List (List UInt8×Bool)) (T:List (List UInt8)),AD D k l->k<=fu->(∀ t,CN W t=T.contains t)->
  ∃ b W',jL fu l W=some (b,W')/\b=ik T (sL k l)/\(b=false->∀ t,CN W' t=(T++sL k l).contains t)
 |0,_,_,_,_,h,_,_=>h.elim
 |k+1,l,0,_,_,_,h,_=>by omega
 |k+1,l,fu+1,W,T,h,hf,hW=>by
  have h50:=h.len
  have key:∃ c:Bool×List (List UInt8×Bool),jL (fu+1) l W=some c/\c.1=ik T (sL (k+1) l)/\(c.1=false->∀ t,CN c.2 t=(T++sL (k+1) l).contains t):=by
   rw[vb];unfold tL;dsimp only;simp only[va]
   refine ld (X:=List (List UInt8×Bool)×Nat) (C:=fun c:Bool×List (List UInt8×Bool)=>c.1=ik T (sL (k+1) l)/\(c.1=false->∀ t,CN c.2 t=(T++sL (k+1) l).contains t)) (fun s=>(s.1,(s.2:Int))) (fun s=>l.length - s.2)
    (fun s=>s.2<=l.length/\(∀ t,CN s.1 t=(T++(l.take s.2).flatMap (wi (sL k))).contains t)/\ik T (sL (k+1) l)=ik (T++(l.take s.2).flatMap (wi (sL k))) ((l.drop s.2).flatMap (wi (sL k)))) ?_ (W,0) ⟨ME _,by simpa using hW,by simp[sL]⟩
   rintro⟨M,i⟩ ⟨h1,h2,h3⟩
   simp only at h1 h2 h3⊢
   rcases Mr i l.length with hi|hi
   ·obtain⟨e,he⟩:=eb hi
    have hm:=Mb he
    have hsn:(l.take (i+1)).flatMap (wi (sL k))=(l.take i).flatMap (wi (sL k))++wi (sL k) e:=by rw[cP he,List.flatMap_append];simp
    rw[kc he,List.flatMap_cons,Aw] at h3
    simp only[bp hi,Mf,aw,he,L8,bN i oM]
    by_cases hn:e.fName=[]
    ·rw[M9 hn]
     have hz:wi (sL k) e=[]:=by unfold wi;rw[NH hn]
     rw[hz] at h3
     refine .inl ⟨(M,i+1),⟨hi, ?_, ?_⟩,by simp only;omega,rfl⟩
     ·intro t;rw[hsn,hz];simpa using h2 t
     ·rw[hsn,hz,h3];simp[ik]
    ·rw[Ni hn]
     have hz:wi (sL k) e=e.fName::sL k e.fItems:=by unfold wi;rw[NY hn]
     rw[hz] at h3
     simp only[ik] at h3
     have hg:(jB M e.fName).getD false=(T++(l.take i).flatMap (wi (sL k))).contains e.fName:=h2 e.fName
     simp only[Mg]
     rw[hg]
     cases hc:(T++(l.take i).flatMap (wi (sL k))).contains e.fName with
     |true=>
      rw[hc] at h3
      exact .inr ⟨_,(true,M),rfl,rfl,by rw[h3];rfl,fun h=>by cases h⟩
     |false=>
      rw[hc,MB] at h3
      simp only[Mg]
      obtain⟨b,W',q1,q2,q3⟩:=FN k e.fItems fu (kA M e.fName true) (T++(l.take i).flatMap (wi (sL k))++[e.fName]) ((h.it hm).2 hn) oM (fun t=>by
       rw[y6,h2 t,Mp]
       simp only[Nt,Mt,Nd,Mu,Ma]
       constructor
       ·rintro(h|h)
        ·exact .inr h
        ·exact .inl h
       ·rintro(h|h)
        ·exact .inr h
        ·exact .inl h)
      rw[q1]
      simp only[L8]
      rw[<-q2] at h3
      cases b with
      |true=>exact .inr ⟨_,(true,W'),rfl,rfl,by rw[h3];rfl,fun h=>by cases h⟩
      |false=>
       rw[MB] at h3
       refine .inl ⟨(W',i+1),⟨hi, ?_, ?_⟩,by simp only;omega,rfl⟩
       ·intro t
        rw[q3 rfl t,hsn,hz]
        simp
       ·rw[hsn,hz,h3];simp
   ·have hl':i=l.length:=by omega
    subst hl'
    rw[MQ] at h2 h3
    rw[Nl] at h3
    refine .inr ⟨.inl (M,(l.length:Int)),(false,M),by simp only[an,Mg];rfl,rfl, ?_,fun _=>h2⟩
    rw[h3];rfl
  obtain⟨⟨b,W'⟩,k1,k2,k3⟩:=key
  exact⟨b,W',k1,k2,k3⟩
theorem Ax (R:Type) (K:List (List UInt8×Bool)->Option R):∀ (es:List (List UInt8×Bool)) (M:List (List UInt8×Bool)),qr (fun(e:List UInt8×Bool) (s:List (List UInt8×Bool))=>(some (Sum.inl (kA s e.1 true)):Option (List (List UInt8×Bool)⊕(List (List UInt8×Bool)⊕R)))) K es M=K (es.foldl (fun M e=>kA M e.1 true) M)
 |[],M=>rfl
 |e::es,M=>by
  simp only[qr,List.foldl_cons]
  exact Ax R K es _
theorem D6:∀ (es:List (List UInt8×Bool)) (M:List (List UInt8×Bool)) (t:List UInt8),CN (es.foldl (fun M e=>kA M e.1 true) M) t=(CN M t||es.any fun p=>decide (p.1=t))
 |[],M,t=>by simp
 |e::es,M,t=>by
  simp only[List.foldl_cons,List.any_cons]
  rw[D6 es _ t,y6]
  have:decide (t=e.1)=decide (e.1=t):=by congr 1;apply propext;exact eq_comm
  rw[this]
  cases decide (e.1=t)<;>cases CN M t<;>simp
theorem BW:∀ (es:List (List UInt8×Bool)) (M:List (List UInt8×Bool)),(∀ p∈M,p.2=true)->∀ p∈es.foldl (fun M e=>kA M e.1 true) M,p.2=true
 |[],M,h=>h
 |e::es,M,h=>BW es _ (BV h e.1)
theorem Iy {α:Type} {p:α->Bool} {a b:List α} (h:a.Perm b):a.any p=b.any p:=by
 rw[Mp,Ny,Ny]
 constructor
 ·rintro⟨x,hx,h1⟩;exact⟨x,h.mem_iff.1 hx,h1⟩
 ·rintro⟨x,hx,h1⟩;exact⟨x,h.mem_iff.2 hx,h1⟩
theorem FO {D:List UInt8->Bool}:∀ (k:Nat) (l:List Sl) (fu:Nat) (W:List (List UInt8×Bool)) (S:List UInt8->Bool) (g:Bool),AD D k l->k<=fu->(∀ t,CN W t=S t)->(∀ p∈W,p.2=true)->fI fu l W g=some (AE k l S g)
 |0,_,_,_,_,_,h,_,_,_=>h.elim
 |k+1,l,0,_,_,_,_,h,_,_=>by omega
 |k+1,l,fu+1,W,S,g,h,hf,hW,hT=>by
  have h50:=h.len
  rw[vd];unfold tM;dsimp only;simp only[vc]
  have hlast:(dD (fun s:Int=>bif decide (s<(l.length:Int)) then(b_ l s).bind fun e=>bif decide (e.fName=[]) then some (Sum.inl (IntKind.i64.wrap (s+1))) else tn W (fun e s=>some (Sum.inl (kA s e.fst true))) [] fun s_1=>(eu l ((some s).getD 0) ((none:Option Int).getD ((l.length:Nat):Int))).bind fun e_1=>(dD (fun s:List (List UInt8×Bool)×Int=>bif decide (s.snd<((e_1.length:Nat):Int)) then(b_ e_1 s.snd).bind fun e=>(gx {fTag:=e.fTag,fName:=e.fName,fMin:=e.fMin,fMax:=e.fMax,fItems:=e.fItems}).bind fun x=>some (Sum.inl (kA s.fst x true,IntKind.i64.wrap (s.snd+1))) else dy (some (Sum.inl (s.fst,s.snd)))) (s_1,0)).bind (dg fun s_2=>(fI fu e.fItems s_2.fst true).bind fun x=>bif x then dy (dy (some true)) else some (Sum.inl (IntKind.i64.wrap (s+1)))) else dy (some (Sum.inl s))) 0).bind (dg fun _=>some false)=some (GT (fun it S'=>AE k it S' true) S l):=by
   refine jx (X:=Nat) (fun i=>(i:Int)) (fun i=>l.length - i) (fun i=>i<=l.length/\GT (fun it S'=>AE k it S' true) S l=GT (fun it S'=>AE k it S' true) S (l.drop i)) ?_ 0 ⟨ME _,rfl⟩
   rintro i ⟨k1,k2⟩
   rcases Mr i l.length with hi|hi
   ·obtain⟨e,he⟩:=eb hi
    have hm:=Mb he
    have hdr:=kc he
    rw[hdr] at k2
    simp only[GT] at k2
    simp only[bp hi,Mf,aw,he,L8,bN i oM]
    by_cases hn:e.fName=[]
    ·rw[M9 hn] at k2⊢
     exact .inl ⟨i+1,⟨hi,by simpa using k2⟩,by omega,rfl⟩
    ·rw[Ni hn] at k2⊢
     simp only[Mo,Mj] at k2
     have hsl:eu l ((some (i:Int)).getD 0) ((none:Option Int).getD ((l.length:Nat):Int))=some (l.drop i):=by
      simp only[Nf,MO,eu]
      rw[NH ⟨by omega,by omega,Na _⟩,Nh l.length,MF (Me _)]
      simp
     have hrange:tn W (fun(e:List UInt8×Bool) (s:List (List UInt8×Bool))=>some (Sum.inl (kA s e.fst true))) [] (fun s_1=>(eu l ((some (i:Int)).getD 0) ((none:Option Int).getD ((l.length:Nat):Int))).bind fun e_1=>(dD (fun s:List (List UInt8×Bool)×Int=>bif decide (s.snd<((e_1.length:Nat):Int)) then(b_ e_1 s.snd).bind fun e=>(gx {fTag:=e.fTag,fName:=e.fName,fMin:=e.fMin,fMax:=e.fMax,fItems:=e.fItems}).bind fun x=>some (Sum.inl (kA s.fst x true,IntKind.i64.wrap (s.snd+1))) else dy (some (Sum.inl (s.fst,s.snd)))) (s_1,0)).bind (dg fun s_2=>(fI fu e.fItems s_2.fst true).bind fun x=>bif x then(dy (dy (some true)):Option (Int⊕(Int⊕Bool))) else some (Sum.inl ((i+1:Nat):Int))))=
       some (if AE k e.fItems (fun t=>S t||((e::l.drop (i+1)).map du).contains t) true=true then .inr (.inr true) else .inl ((i+1:Nat):Int)):=by
      refine Gi fun W' hp=> ?_
      rw[Ax,hsl]
      simp only[L8]
      have hM0:∀ t,CN (W'.foldl (fun M e=>kA M e.1 true) []) t=S t:=fun t=>by
       rw[D6,Iy hp,<-Jz hT,hW];rfl
      have hT0:=BW W' [] (fun p hp=>by cases hp)
      generalize W'.foldl (fun M e=>kA M e.1 true) []=M0 at hM0 hT0
      refine jx (X:=List (List UInt8×Bool)×Nat) (fun s=>(s.1,(s.2:Int))) (fun s=>(l.drop i).length - s.2) (fun s=>s.2<=(l.drop i).length/\(∀ t,CN s.1 t=(S t||(((l.drop i).take s.2).map du).contains t))/\∀ p∈s.1,p.2=true) ?_ (M0,0) ⟨ME _,by simpa using hM0,hT0⟩
      rintro⟨M,j⟩ ⟨p1,p2,p3⟩
      simp only at p1 p2 p3⊢
      rcases Mr j (l.drop i).length with hj|hj
      ·obtain⟨x,hx⟩:=eb hj
       have hxm:x∈l:=MU (Mb hx)
       have hlj:(l.drop i).length<=50:=by rw[Nq];omega
       simp only[bp hj,Mf,aw,hx,L8,dB,Ir (h.it hxm).1.ok,bN j oM]
       refine .inl ⟨(kA M (du x) true,j+1),⟨hj,fun t=> ?_,BV p3 _⟩,by simp only;omega,rfl⟩
       simp only
       rw[y6,p2 t,cP hx,Mp]
       simp only[Nt,NP,Mk,Nw,Mt,Nd,Mu,Ma]
       constructor
       ·rintro(h|h|h)
        ·exact .inr (.inr h)
        ·exact .inl h
        ·exact .inr (.inl h)
       ·rintro(h|h|h)
        ·exact .inr (.inl h)
        ·exact .inr (.inr h)
        ·exact .inl h
      ·have hl':j=(l.drop i).length:=by omega
       subst hl'
       rw[MQ,hdr] at p2
       refine .inr ⟨_,by simp only[an,Mg];rfl, ?_⟩
       simp only[dg]
       rw[FO k e.fItems fu M _ true ((h.it hm).2 hn) oM p2 p3]
       simp only[L8]
       cases AE k e.fItems (fun t=>S t||((e::l.drop (i+1)).map du).contains t) true<;>rfl
     simp only[Mg]
     rw[hrange]
     cases hc:AE k e.fItems (fun t=>S t||((e::l.drop (i+1)).map du).contains t) true with
     |true=>rw[hc] at k2;exact .inr ⟨_,by rw[NH rfl],by rw[k2];rfl⟩
     |false=>rw[hc] at k2;exact .inl ⟨i+1,⟨hi,by simpa using k2⟩,by omega,by rw[NY oS]⟩
   ·have hl':i=l.length:=by omega
    subst hl'
    rw[Nl] at k2
    exact .inr ⟨_,by simp only[an,Mg];rfl,by rw[k2];rfl⟩
  refine jx (X:=List (List UInt8×Bool)×Nat) (fun s=>(s.1,(s.2:Int))) (fun s=>l.length - s.2) (fun s=>s.2<=l.length/\(∀ t,CN s.1 t=((l.take s.2).map du).contains t)/\(Au S g 0 (l.map du)||ik [] (l.map du))=(Au S g s.2 ((l.drop s.2).map du)||ik ((l.take s.2).map du) ((l.drop s.2).map du))) ?_ ([],0) ⟨ME _,fun t=>by simp[CN,jB],by simp⟩
  rintro⟨M,i⟩ ⟨k1,k2,k3⟩
  simp only at k1 k2 k3⊢
  rcases Mr i l.length with hi|hi
  ·obtain⟨e,he⟩:=eb hi
   have hm:=Mb he
   rw[kc he] at k3
   simp only[Mk,Au,ik] at k3
   simp only[bp hi,Mf,aw,he,L8,bN i oM,dB,Ir (h.it hm).1.ok,aO,bz]
   have hd0:decide ((i:Int)=0)=decide (i=0):=by congr 1;apply propext;omega
   have e1:(jB M (du e)).getD false=((l.take i).map du).contains (du e):=k2 _
   have e2:(jB W (du e)).getD false=S (du e):=hW _
   rw[hd0,e1,e2]
   have hsn:(l.take (i+1)).map du=(l.take i).map du++[du e]:=by rw[cP he];simp
   cases hc:(((l.take i).map du).contains (du e)||S (du e)&& !(g&&decide (i=0))) with
   |true=>
    refine .inr ⟨_,rfl, ?_⟩
    unfold AE
    have:(Au S g 0 (l.map du)||ik [] (l.map du))=true:=by
     rw[k3]
     simp only[Mu,L9] at hc⊢
     rcases hc with hc|hc
     ·exact .inr (.inl hc)
     ·exact .inl (.inl ⟨hc.2,hc.1⟩)
    rw[this];rfl
   |false=>
    simp only[ML,M_] at hc
    refine .inl ⟨(kA M (du e) true,i+1),⟨hi,fun t=> ?_, ?_⟩,by simp only;omega,rfl⟩
    ·simp only
     rw[y6,k2 t,hsn,Mp]
     simp only[Nt,Mt,Nd,Mu,Ma]
     constructor
     ·rintro(h|h)
      ·exact .inr h
      ·exact .inl h
     ·rintro(h|h)
      ·exact .inr h
      ·exact .inl h
    ·rw[k3,hsn,hc.1]
     have:(!(g&&decide (i=0))&&S (du e))=false:=by
      rcases hc.2 with hc|hc
      ·rw[hc];simp
      ·rw[hc];rfl
     rw[this]
     simp
  ·have hl':i=l.length:=by omega
   subst hl'
   rw[Nl,MQ] at k3
   refine .inr ⟨_,by simp only[an,Mg];rfl, ?_⟩
   simp only[dg]
   unfold AE
   rw[k3]
   simp only[Nw,Au,ik,MB]
   exact hlast
theorem lf (s:ae) (h:Jw s):jQ s=some (CU s):=by
 have hFU:=CC
 unfold jQ tS;dsimp only
 rw[EW _ h.kind,EW _ h.version,KS _ h.tags]
 simp only[L8,bz]
 unfold CU
 by_cases c1:dN s.fKind=false\/dN s.fVersion=false
 ·rw[NH c1,show(!dN s.fKind|| !dN s.fVersion)=true by simpa using c1];rfl
 rw[NY c1,show(!dN s.fKind|| !dN s.fVersion)=false by simpa using c1]
 simp only[Mg]
 by_cases c2:rD s.fDefs=0
 ·rw[NY (not_not_intro c2),M9 c2]
  have hdl:=Av c2
  have hit:=Ix s (BT c2) oM 8 0 s.fItems 0 FU oM oM oM oM oM h.items
  rw[show((0:Nat):Int)=0 from rfl] at hit
  rw[hit]
  simp only[Mm,Mg,L8]
  by_cases c3:(qS (aq s.fDefs) 8 s.fItems 0 0).1=0
  ·rw[NY (not_not_intro c3),M9 c3]
   obtain⟨k1,k2⟩:=uE _ 8 s.fItems 0 0 c3
   obtain⟨b,W',q1,q2, -⟩:=FN 8 s.fItems FU [] [] k1 oM (fun t=>by simp[CN,jB])
   rw[q1]
   simp only[Mm,Mg,L8]
   rw[<-q2]
   cases b with
   |true=>rfl
   |false=>
    simp only[Mg,My,MZ]
    rw[FO 8 s.fItems FU [] (fun _=>false) false k1 oM (fun t=>rfl) (fun p hp=>by cases hp)]
    simp only[L8]
    cases AE 8 s.fItems (fun _=>false) false<;>rfl
  ·rw[NH c3,Ni c3];rfl
 ·rw[NH c2,Ni c2];rfl
theorem GC {seen a b:List (List UInt8)} (h:ik seen (a++b)=false):ik seen a=false/\ik (seen++a) b=false:=by
 rw[Aw] at h
 simpa using h
theorem Al:∀ {l seen:List (List UInt8)},ik seen l=false->∀ t∈l,t∉seen
 |x::l,seen,h,t,ht,hs=>by
  simp only[ik,ML] at h
  rcases Ml.1 ht with rfl|ht
  ·have:=h.1;simp at this;exact this hs
  ·exact Al h.2 t ht (List.mem_append_left _ hs)
theorem BM:∀ {l seen seen':List (List UInt8)},(∀ t∈seen',t∈seen)->ik seen l=false->ik seen' l=false
 |[],_,_,_,_=>rfl
 |x::l,seen,seen',hs,h=>by
  simp only[ik,ML] at h⊢
  refine⟨?_,BM (fun t ht=> ?_) h.2⟩
  ·have:=h.1
   simp only[Nt,MA] at this⊢
   exact fun hx=>this (hs x hx)
  ·rcases Mt.1 ht with ht|ht
   ·exact List.mem_append_left _ (hs t ht)
   ·exact List.mem_append_right _ ht
theorem Jf {l:List (List UInt8)}:∀ {seen},ik seen l=false->l.Pairwise (fun a b=>b≠a):=by
 induction l with
 |nil=>intro _ _;exact .nil
 |cons x l ih=>
  intro seen h
  simp only[ik,ML] at h
  refine List.pairwise_cons.2 ⟨fun y hy e=> ?_,ih h.2⟩
  subst e
  exact Al h.2 y hy (List.mem_append_right _ (Nd.2 rfl))
def H7 (a b:Sl):Prop:=b.fTag=a.fTag/\b.fName=a.fName
def K0:Nat->List Sl->Prop
 |0,_=>True
 |k+1,l=>l.Pairwise (fun a b=>¬ H7 a b)/\∀ e∈l,e.fName≠[]->K0 k e.fItems
theorem FB {rec:List Sl->(List UInt8->Bool)->Bool} {S:List UInt8->Bool}:∀ {l:List Sl},GT rec S l=false->∀ e∈l,e.fName≠[]->∃ S',rec e.fItems S'=false
 |x::l,h,e,he,hn=>by
  simp only[GT,ML] at h
  rcases Ml.1 he with rfl|he
  ·have:=h.1
   rw[Ni hn,Mo,Mj] at this
   exact⟨_,this⟩
  ·exact FB h.2 e he hn
theorem JR {D:List UInt8->Bool}:∀ (k:Nat) (l:List Sl) (seen:List (List UInt8)) (S:List UInt8->Bool) (g:Bool),AD D k l->ik seen (sL k l)=false->AE k l S g=false->K0 k l
 |0,_,_,_,_,h,_,_=>h.elim
 |k+1,l,seen,S,g,h,hn,hc=>by
  unfold AE at hc
  simp only[ML] at hc
  obtain⟨⟨-,c2⟩,c3⟩:=hc
  have pw:=Jf c2
  rw[List.pairwise_map] at pw
  have pn:∀ (t:List Sl) (seen:List (List UInt8)),(∀ x∈t,x∈l)->ik seen (t.flatMap (wi (sL k)))=false->t.Pairwise (fun a b=>a.fName≠[]->b.fName≠a.fName)/\∀ e∈t,e.fName≠[]->ik [] (sL k e.fItems)=false:=by
   intro t
   induction t with
   |nil=>intro _ _ _;exact⟨.nil,fun e he=>by cases he⟩
   |cons x t ih=>
    intro seen ht hd
    rw[List.flatMap_cons] at hd
    obtain⟨d1,d2⟩:=GC hd
    obtain⟨k1,k2⟩:=ih _ (fun y hy=>ht y (M3 _ hy)) d2
    refine⟨List.pairwise_cons.2 ⟨fun y hy hx e=> ?_,k1⟩,fun e he hne=> ?_⟩
    ·have hyn:y.fName≠[]:=by rw[e];exact hx
     have hmem:y.fName∈t.flatMap (wi (sL k)):=List.mem_flatMap.2 ⟨y,hy,by unfold wi;rw[NY hyn];exact MP ..⟩
     refine Al d2 _ hmem (List.mem_append_right _ ?_)
     unfold wi;rw[NY hx,e];exact MP ..
    ·rcases Ml.1 he with rfl|he
     ·unfold wi at d1
      rw[NY hne] at d1
      simp only[ik,ML] at d1
      exact BM (fun t ht=>by cases ht) d1.2
     ·exact k2 e he hne
  obtain⟨n1,n2⟩:=pn l seen (fun x hx=>hx) hn
  refine⟨?_,fun e he hne=> ?_⟩
  ·refine(pw.and n1).imp_of_mem (fun{a b} ha hb hab hs=> ?_)
   obtain⟨p1,p2⟩:=hab
   by_cases hna:a.fName=[]
   ·have sa:=(h.it ha).1.ok.seg hna
    have sb:=(h.it hb).1.ok.seg (by rw[hs.2];exact hna)
    simp only[mj,L9,Ma] at sa sb
    apply p1
    unfold du
    rw[sa.2,sb.2]
    exact hs.1
   ·exact p2 hna hs.2
  ·obtain⟨S',hS⟩:=FB c3 e he hne
   exact JR k e.fItems [] S' true ((h.it he).2 hne) (n2 e he hne) hS
theorem Lo {s:ae} (h:CU s=0):K0 8 s.fItems:=by
 unfold CU at h
 split at h
 ·cases h
 split at h
 ·rename_i c2;exact absurd h c2
 split at h
 ·rename_i c3;exact absurd h c3
 rename_i c3
 have c3:=NT.1 c3
 split at h
 ·cases h
 rename_i c4
 split at h
 ·cases h
 rename_i c5
 obtain⟨k1, -⟩:=uE _ 8 s.fItems 0 0 c3
 exact JR 8 s.fItems [] (fun _=>false) false k1 (by simpa using c4) (by simpa using c5)
abbrev Bk:=bh
def uw {α:Type} (p:Nat->α->Bool):Nat->List α->Bool
 |_,[]=>true
 |i,x::l=>p i x&&uw p (i+1) l
theorem sn {α R:Type} (l:List α) (q:Nat->α->Bool) (a:R) {f:Int->Option (Int⊕(Int⊕R))} {K:Int->Option R}
  (hb:∀ (i:Nat) (e:α),l[i]?=some e->f (i:Int)=if q i e=true then some (.inl ((i+1:Nat):Int)) else some (.inr (.inr a))) (he:f (l.length:Int)=some (.inr (.inl (l.length:Int)))):
  (dD f 0).bind (dg K)=if uw q 0 l=true then K (l.length:Int) else some a:=by
 refine jx (X:=Nat) (fun i=>((i:Nat):Int)) (fun i=>l.length - i) (fun i=>i<=l.length/\uw q 0 l=uw q i (l.drop i)) ?_ 0 ⟨ME _,rfl⟩
 rintro i ⟨h1,h2⟩
 rcases Mr i l.length with hi|hi
 ·obtain⟨e,hx⟩:=eb hi
  rw[kc hx] at h2
  simp only[uw] at h2
  cases hq:q i e with
  |true=>exact .inl ⟨i+1,⟨hi,by rw[h2,hq,Mj]⟩,by omega,by rw[hb i e hx,hq];rfl⟩
  |false=>
   rw[hq] at h2
   exact .inr ⟨_,by rw[hb i e hx,hq];rfl,by rw[h2];rfl⟩
 ·have hl:i=l.length:=by omega
  subst hl
  rw[Nl] at h2
  exact .inr ⟨_,he,by rw[h2];rfl⟩
def ux (a b:ap):Bool:=
 !((b.fNeeded&& !a.fNeeded)||(!decide (a.fType=b.fType)&& !decide (b.fType=1))||decide (a.fMin<b.fMin)||decide (b.fMax<a.fMax))&&(decide (b.fCodes=[])||(!decide (a.fCodes=[])&&a.fCodes.all fun c=>b.fCodes.contains c))
def qR {α:Type} (need:α->Bool) (f:α->α->Bool) (a:List α) (i:Nat) (y:α):Bool:=match a[i]? with|none=> !need y|some x=>f x y
def uy (a b:aD):Bool:=
 !((b.fNeeded&& !a.fNeeded)||decide (b.fMost<a.fMost)||decide (b.fParts.length<a.fParts.length))&&uw (qR (·.fNeeded) ux a.fParts) 0 b.fParts
def H8 (a b:Df):Bool:= !decide (b.fElements.length<a.fElements.length)&&uw (qR (·.fNeeded) uy a.fElements) 0 b.fElements
def s_ (x:Sl):List UInt8:=if x.fName=[] then x.fTag else x.fName
def FC (x y:Sl):Bool:=decide (y.fTag=x.fTag)&&decide (y.fName=x.fName)
def A0 (x:Sl) (l:List Sl):Option Nat:=l.findIdx? (FC x)
def yI (rec:List Sl->List Sl->List UInt8->List Bk) (nd:List UInt8->Bool) (x y:Sl) (p:List UInt8):List Bk:=
 (if x.fMin<y.fMin then[⟨p,3⟩] else[])++(if y.fMax<x.fMax then[⟨p,4⟩] else[])++(if x.fName=[] then(if nd x.fTag=true then[] else[⟨p,5⟩]) else rec x.fItems y.fItems (p++[47]))
def pb (rec:List Sl->List Sl->List UInt8->List Bk) (nd:List UInt8->Bool) (lb:List Sl) (p:List UInt8):List Sl->Int->List Bk
 |[],_=>[]
 |x::l,last=>match A0 x lb with
  |none=>⟨p++s_ x,1⟩::pb rec nd lb p l last
  |some k=>(if(k:Int)<=last then[⟨p++s_ x,2⟩] else[])++yI rec nd x (lb.getD k ⟨[],[],0,0,[]⟩) (p++s_ x)++pb rec nd lb p l (k:Int)
def gU (la lb:List Sl) (k:Nat):Bool:=la.any fun x=>decide (A0 x lb=some k)
def DR (la lb:List Sl) (p:List UInt8):List Bk:=mT (fun k y=>if gU la lb k=false/\0<y.fMin then[(⟨p++s_ y,3⟩:Bk)] else[]) 0 lb
def sY (nd:List UInt8->Bool):Nat->List Sl->List Sl->List UInt8->List Bk
 |0,_,_,_=>[]
 |k+1,la,lb,p=>pb (sY nd k) nd lb p la (-1)++DR la lb p
theorem y3 {α:Type} {i:Nat} {l:List α}:decide ((l.length:Int)<=(i:Int))=l[i]?.isNone:=by
 rw[Mp,Ma,Option.isNone_iff_eq_none,Nz];omega
theorem CF {α β:Type} {a:List α} {b:List β}:decide ((a.length:Int)<(b.length:Int))=decide (a.length<b.length):=by congr 1;apply propext;omega
theorem FD {α:Type} {l:List α} {i:Nat} {e:α} (h:l[i]?=some e):b_ l (i:Int)=some e:=by rw[aw];exact h
theorem Jg (a b:ap) (ha:a.fCodes.length<=1000) (hb:b.fCodes.length<=1000):eo a b=some (ux a b):=by
 unfold eo l6;dsimp only
 simp only[aO,bz,L8]
 unfold ux
 rw[DY b.fCodes]
 have hx:(b.fNeeded&& !a.fNeeded|| !decide (a.fType=b.fType)&& !decide (b.fType=1)||decide (a.fMin<b.fMin)||decide (b.fMax<a.fMax))=(b.fNeeded&& !a.fNeeded||(!decide (a.fType=b.fType)&& !decide (b.fType=1))||decide (a.fMin<b.fMin)||decide (b.fMax<a.fMax)):=rfl
 cases(b.fNeeded&& !a.fNeeded|| !decide (a.fType=b.fType)&& !decide (b.fType=1)||decide (a.fMin<b.fMin)||decide (b.fMax<a.fMax)) with
 |true=>rfl
 |false=>
  simp only[Mg,Mo,Mj]
  by_cases hn:b.fCodes=[]
  ·rw[M9 hn];rfl
  rw[Ni hn,Mg,MB]
  have inner:∀ (i:Nat) (c:List UInt8),a.fCodes[i]?=some c->(dD (fun s_1:Bool×Int=>bif decide (s_1.snd<(b.fCodes.length:Int)) then(BE s_1.fst ((b_ a.fCodes (i:Int)).bind fun e=>(b_ b.fCodes s_1.snd).bind fun e_1=>some (decide (e=e_1)))).bind fun v=>some (Sum.inl (v,IntKind.i64.wrap (s_1.snd+1))) else dy (some (Sum.inl (s_1.fst,s_1.snd)))) (false,0)).bind
    (dg fun s_1:Bool×Int=>bif !s_1.fst then dy (dy (some false)) else some (Sum.inl (IntKind.i64.wrap ((i:Int)+1))))=(if b.fCodes.contains c=true then some (.inl ((i+1:Nat):Int)) else some (.inr (.inr false)):Option (Int⊕(Int⊕Bool))):=by
   intro i c hc
   have hi:=bD hc
   refine dj (uB b.fCodes (fun k p=>(p.contains c,(k:Int))) (a:= .inl (b.fCodes.contains c,(b.fCodes.length:Int))) (fun k e he=> ?_) ?_) ?_
   ·have hk:=bD he
    simp only[bp hk,Mf,FD hc,FD he,L8,bz,bN k oM]
    congr 3
    simp only[Nt,Mt,Nd,Bool.decide_or]
   ·simp only[an,Mg];rfl
   ·simp only[dg]
    cases b.fCodes.contains c with
    |true=>rw[bN i oM];rfl
    |false=>rfl
  refine Eq.trans (nL a.fCodes (fun c=>b.fCodes.contains c) false (fun i c hc=> ?_) ?_) ?_
  ·simp only[bp (bD hc),Mf]
   exact inner i c hc
  ·simp only[an,Mg];rfl
  ·rw[Iq]
   cases hall:a.fCodes.all fun c=>b.fCodes.contains c with
   |true=>rw[NH rfl,NK]
   |false=>rw[NY oS,N8]
theorem Jh (a b:aD) (ha:a.fParts.length<=1000/\∀ p∈a.fParts,p.fCodes.length<=1000) (hb:b.fParts.length<=1000/\∀ p∈b.fParts,p.fCodes.length<=1000):dr a b=some (uy a b):=by
 unfold dr ub;dsimp only
 simp only[aO,bz,L8,CF]
 unfold uy
 cases(b.fNeeded&& !a.fNeeded||decide (b.fMost<a.fMost)||decide (b.fParts.length<a.fParts.length)) with
 |true=>rfl
 |false=>
  simp only[Mg,Mo,Mj]
  refine Eq.trans (sn b.fParts (qR (·.fNeeded) ux a.fParts) false (fun i y hy=> ?_) ?_) ?_
  ·have hi:=bD hy
   have hm:=Mb hy
   simp only[bp hi,Mf,y3,aw,hy,L8]
   unfold qR
   cases hx:a.fParts[i]? with
   |none=>simp only[Option.isNone_none,Mf];by_cases hq:y.fNeeded=true<;>simp[hq,bN i oM,mb]
   |some x=>
    simp only[Option.isNone_some,Mg,L8,Jg x y (ha.2 x (Mb hx)) (hb.2 y hm)]
    by_cases hq:ux x y=true<;>simp[hq,bN i oM,mb]
  ·simp only[an,Mg];rfl
  ·cases uw (qR (·.fNeeded) ux a.fParts) 0 b.fParts<;>rfl
theorem KC (a b:Df) (ha:a.fElements.length<=1000/\∀ e∈a.fElements,e.fParts.length<=1000/\∀ p∈e.fParts,p.fCodes.length<=1000) (hb:b.fElements.length<=1000/\∀ e∈b.fElements,e.fParts.length<=1000/\∀ p∈e.fParts,p.fCodes.length<=1000):cO a b=some (H8 a b):=by
 unfold cO uc;dsimp only
 simp only[CF]
 unfold H8
 cases decide (b.fElements.length<a.fElements.length) with
 |true=>rfl
 |false=>
  simp only[Mg,Mo,Mj]
  refine Eq.trans (sn b.fElements (qR (·.fNeeded) uy a.fElements) false (fun i y hy=> ?_) ?_) ?_
  ·have hi:=bD hy
   have hm:=Mb hy
   simp only[bp hi,Mf,y3,aw,hy,L8]
   unfold qR
   cases hx:a.fElements[i]? with
   |none=>simp only[Option.isNone_none,Mf];by_cases hq:y.fNeeded=true<;>simp[hq,bN i oM,mb]
   |some x=>
    simp only[Option.isNone_some,Mg,L8,Jh x y (ha.2 x (Mb hx)) (hb.2 y hm)]
    by_cases hq:uy x y=true<;>simp[hq,bN i oM,mb]
  ·simp only[an,Mg];rfl
  ·cases uw (qR (·.fNeeded) uy a.fElements) 0 b.fElements<;>rfl
def A1 (o:Option Nat):Int:=match o with|none=> -1|some k=>(k:Int)
theorem xc {x y:Sl}:FC x y=true↔y.fTag=x.fTag/\y.fName=x.fName:=by simp[FC]
theorem H9 {x e:Sl} {l:List Sl}:A0 x (l++[e])=match A0 x l with|some k=>some k|none=>if FC x e=true then some l.length else none:=by
 unfold A0
 rw[NW]
 cases List.findIdx? (FC x) l with
 |some k=>rfl
 |none=>
  simp only[Option.none_or]
  rw[List.findIdx?_singleton]
  cases FC x e<;>simp
theorem y4 {x:Sl} {l:List Sl} {k:Nat} (h:A0 x l=some k):∃ y,l[k]?=some y/\FC x y=true:=by
 unfold A0 at h
 rw[List.findIdx?_eq_some_iff_getElem] at h
 obtain⟨h1,h2, -⟩:=h
 exact⟨l[k],Mi h1,h2⟩
theorem KD {l:List Sl} (h:l.Pairwise (fun a b=>¬ H7 a b)) {x e:Sl} {i:Nat} (he:l[i]?=some e) (hx:FC x e=true):A0 x (l.take i)=none:=by
 cases hk:A0 x (l.take i) with
 |none=>rfl
 |some k=>
  exfalso
  obtain⟨y,h1,h2⟩:=y4 hk
  have hlt:k<i:=by
   have:=bD h1
   simp at this;omega
  rw[List.getElem?_take_of_lt hlt] at h1
  have hi:=bD he
  have hk:=bD h1
  rw[List.pairwise_iff_getElem] at h
  have q:=h k i hk hi hlt
  rw[Mi hi] at he
  rw[Mi hk] at h1
  simp only[L7] at he h1
  rw[xc] at hx h2
  apply q
  rw[h1,he]
  exact⟨by rw[hx.1,h2.1],by rw[hx.2,h2.2]⟩
def JS (s:ae) (t:List UInt8):Df:=(s.fDefs.find? fun d=>decide (d.fTag=t)).getD ⟨[],[]⟩
theorem EP {s:ae} {t:List UInt8} (hr:xi s.fDefs) {d:Df} (hd:d∈s.fDefs) (ht:d.fTag=t):JS s t=d:=by
 unfold JS
 cases hf:s.fDefs.find? fun d=>decide (d.fTag=t) with
 |none=>exact absurd (List.find?_eq_none.1 hf d hd) (by simpa using ht)
 |some e=>
  have h1:=List.mem_of_find?_eq_some hf
  have h2:=List.find?_some hf
  simp only[Ma] at h2
  show e=d
  exact Iw hr h1 hd (h2.trans ht.symm)
structure GD (s:ae):Prop where
 rise:xi s.fDefs
 len:s.fDefs.length<=1000
 df:∀ d∈s.fDefs,d.fElements.length<=1000/\∀ e∈d.fElements,e.fParts.length<=1000/\∀ p∈e.fParts,p.fCodes.length<=1000
theorem JT {s:ae} (h:GD s) {t:List UInt8} (ht:aq s.fDefs t=true):∃ n,bK s t=some n/\b_ s.fDefs n=some (JS s t)/\JS s t∈s.fDefs:=by
 obtain⟨n,h1, -,h3⟩:=DZ s t h.len
 obtain⟨d,k1,k2,k3⟩:=h3 ht
 exact⟨n,h1,by rw[EP h.rise k2 k3];exact k1,by rw[EP h.rise k2 k3];exact k2⟩
def x6 (a b:ae) (t:List UInt8):Bool:=H8 (JS a t) (JS b t)
theorem Lp {a b:ae} (ha:GD a) (hb:GD b) {t:List UInt8} (h1:aq a.fDefs t=true) (h2:aq b.fDefs t=true) {R:Type} (K:Bool->Option R):
  ((bK a t).bind fun x_1=>(b_ a.fDefs x_1).bind fun e_5=>(bK b t).bind fun x_2=>(b_ b.fDefs x_2).bind fun e=>(cO e_5 e).bind K)=K (x6 a b t):=by
 obtain⟨n,p1,p2,p3⟩:=JT ha h1
 obtain⟨m,q1,q2,q3⟩:=JT hb h2
 rw[p1,L8,p2,L8,q1,L8,q2,L8,KC _ _ (ha.df _ p3) (hb.df _ q3)]
 rfl
theorem H_ (la lb:List Sl) (p:List UInt8):(DR la lb p).length<=lb.length:=by
 unfold DR
 have:=uQ (b:=1) (f:=fun k y=>if gU la lb k=false/\0<y.fMin then[(⟨p++s_ y,3⟩:Bk)] else[]) lb 0 (fun i e _=>by split<;>simp)
 omega
theorem Ia (rec:List Sl->List Sl->List UInt8->List Bk) (nd:List UInt8->Bool) (x y:Sl) (p:List UInt8):(yI rec nd x y p).length<=3+(if x.fName=[] then 0 else(rec x.fItems y.fItems (p++[47])).length):=by
 unfold yI
 simp only[Mh]
 repeat' split
 all_goals simp only[MI,Nj]
 all_goals omega
theorem rB {rec:List Sl->List Sl->List UInt8->List Bk} {nd:List UInt8->Bool} {lb:List Sl} {p:List UInt8} {k:Nat} (hrec:∀ (x y:Sl) (q:List UInt8),x.fName≠[]->y∈lb->y.fName=x.fName->(rec x.fItems y.fItems q).length<=54 * lK k x.fItems+50):
  ∀ (l:List Sl) (last:Int),(pb rec nd lb p l last).length<=54 * lK (k+1) l
 |[],_=>by simp[pb]
 |x::l,last=>by
  have hc:lK (k+1) (x::l)=(if x.fName=[] then 1 else 1+lK k x.fItems)+lK (k+1) l:=by simp[lK]
  simp only[pb]
  cases hx:A0 x lb with
  |none=>
   have:=rB (nd:=nd) (p:=p) hrec l last
   simp only[Mv]
   rw[hc]
   split<;>omega
  |some j=>
   obtain⟨y,hy1,hy2⟩:=y4 hx
   have hyd:lb.getD j ⟨[],[],0,0,[]⟩=y:=by rw[List.getD_eq_getElem?_getD,hy1];rfl
   have h1:=rB (nd:=nd) (p:=p) hrec l (j:Int)
   have h2:=Ia rec nd x y (p++s_ x)
   simp only[Mh,hyd]
   have h4:(if(j:Int)<=last then[(⟨p++s_ x,2⟩:Bk)] else[]).length<=1:=by split<;>simp
   rw[hc]
   by_cases hn:x.fName=[]
   ·rw[NH hn] at h2⊢;omega
   ·rw[NY hn] at h2⊢
    have h3:=hrec x y ((p++s_ x)++[47]) hn (Mb hy1) (xc.1 hy2).2
    omega
theorem uz {nd D:List UInt8->Bool}:∀ (k:Nat) (la lb:List Sl) (p:List UInt8),AD D k lb->(sY nd k la lb p).length<=54 * lK k la+50
 |0,_,_,_,h=>h.elim
 |k+1,la,lb,p,h=>by
  have h1:=H_ la lb p
  have h2:=rB (nd:=nd) (lb:=lb) (p:=p) (k:=k) (rec:=sY nd k) (fun x y q hn hy hyn=>uz k _ _ q ((h.it hy).2 (by rw[hyn];exact hn))) la (-1)
  have h3:=h.len
  simp only[sY,Mh]
  omega
theorem Ib {l:List UInt8} (h:dN l=true):l.length<=40:=by
 cases l with
 |nil=>simp
 |cons b l=>simp only[dN,L9,Ma] at h;simp;omega
theorem y5 {D:List UInt8->Bool} {x:Sl} (h:K6 D x):(s_ x).length<=40:=by
 unfold s_
 split
 ·rename_i hn
  have hs:=h.ok.seg hn
  simp only[mj,L9] at hs
  have:x.fTag.length<=6:=by
   have:=hs.1.1
   cases ht:x.fTag with
   |nil=>simp
   |cons b l=>rw[ht] at this;simp only[CJ,L9,Ma] at this;simp;omega
  omega
 ·rename_i hn
  exact Ib (h.name hn)
theorem JU (x:Sl):gK ⟨x.fTag,x.fName,x.fMin,x.fMax,x.fItems⟩=some (s_ x):=by
 unfold gK l6;dsimp only
 unfold s_
 by_cases hn:x.fName=[]
 ·simp[hn]
 ·simp[hn]
theorem Ji {l:List Sl} (h:l.Pairwise (fun a b=>¬ H7 a b)) (hl:l.length<=1000) (x:Sl) {A:Type}:
  (dD (fun s:Int×Int=>bif decide (s.snd<(l.length:Int)) then(b_ l s.snd).bind fun e_1=>(ov (decide (e_1.fTag=x.fTag)) ((b_ l s.snd).bind fun e_2=>some (decide (e_2.fName=x.fName)))).bind fun v=>(bif v then some (Sum.inl s.snd) else some (Sum.inl s.fst)).bind (dg fun s_1=>some (Sum.inl (s_1,IntKind.i64.wrap (s.snd+1)))) else dy (some (Sum.inl (s.fst,s.snd)))) (-1,0):Option ((Int×Int)⊕A))=some (Sum.inl (A1 (A0 x l),(l.length:Int)):(Int×Int)⊕A):=by
 refine uB l (fun i pre=>(A1 (A0 x pre),(i:Int))) (a:=(Sum.inl (A1 (A0 x l),(l.length:Int)):(Int×Int)⊕A)) (fun i e he=> ?_) ?_
 ·have hi:=bD he
  simp only[bp hi,Mf,aw,he,L8,aO]
  rw[H9,Ar he]
  have hq:(decide (e.fTag=x.fTag)&&decide (e.fName=x.fName))=FC x e:=rfl
  rw[hq]
  cases hx:FC x e with
  |true=>
   rw[KD h he hx]
   simp[dg,bN i oM,A1]
  |false=>
   cases A0 x (l.take i)<;>simp[dg,bN i oM,A1]
 ·simp only[an,Mg];rfl
theorem EQ {α R:Type} {c:Bool} {l:List α} {x:α} {K:List α->Option R} (h:l.length<=137438953471):((bif c then lS (sN (l.length+[x].length)) (some (Sum.inl (l++[x]))) else some (Sum.inl l):Option (List α⊕R)).bind (dg K))=K (l++(if c=true then[x] else[])):=by
 cases c with
 |true=>rw[Mf,fZ (by simp only[MI];omega)];rfl
 |false=>simp[dg]
theorem K1 {α:Type} (c:Prop) [Decidable c] (x:α):(if c then[x] else[]).length<=1:=by split<;>simp
theorem GE {la lb:List Sl} {i:Nat} {x:Sl} {k:Nat} (hx:la[i]?=some x) (hk:A0 x lb=some k) {L:List Bool} (hl:L.length=lb.length) (hL:∀ j<lb.length,L[j]?=some (gU (la.take i) lb j)):∀ j<lb.length,(L.set k true)[j]?=some (gU (la.take (i+1)) lb j):=by
 intro j hj
 rw[cP hx]
 unfold gU at hL⊢
 rw[N6,List.getElem?_set]
 simp only[List.any_cons,List.any_nil,NX,hk,L7]
 by_cases hkj:k=j
 ·subst hkj
  simp[hl,hj]
 ·rw[NY hkj,hL j hj]
  simp[hkj]
theorem GF {la lb:List Sl} {i:Nat} {x:Sl} (hx:la[i]?=some x) (hk:A0 x lb=none) {L:List Bool} (hL:∀ j<lb.length,L[j]?=some (gU (la.take i) lb j)):∀ j<lb.length,L[j]?=some (gU (la.take (i+1)) lb j):=by
 intro j hj
 rw[hL j hj,cP hx]
 unfold gU
 rw[N6]
 simp[hk]
theorem Ic {D:List UInt8->Bool} {k:Nat} {lb:List Sl} (h:AD D k lb) {x y:Sl} (hy:y∈lb) (he:FC x y=true):(x.fName=[]->D x.fTag=true)/\(x.fName≠[]->AD D (k - 1) y.fItems):=by
 obtain⟨h1,h2⟩:=h.it hy
 obtain⟨e1,e2⟩:=xc.1 he
 exact⟨fun hn=>by rw[<-e1];exact h1.tag (by rw[e2];exact hn),fun hn=>h2 (by rw[e2];exact hn)⟩
theorem DS {a b:ae} (ga:GD a) (gb:GD b):∀ (k:Nat) (la lb:List Sl) (p:List UInt8) (fu:Nat),AD (aq a.fDefs) k la->AD (aq b.fDefs) k lb->K0 k lb->lK k la<=300->p.length+41 * k<=400->k<=fu->
  er fu a b la lb p=some (sY (x6 a b) k la lb p)
 |0,_,_,_,_,h,_,_,_,_,_=>h.elim
 |k+1,_,_,_,0,_,_,_,_,_,h=>by omega
 |k+1,la,lb,p,fu+1,ha,hb,hu,hc,hp,hf=>by
  rw[og];unfold ud;dsimp only;simp only[od]
  have hla:=ha.len
  have hlb:=hb.len
  have hlenB:∀ (l:List Sl) (last:Int),(pb (sY (x6 a b) k) (x6 a b) lb p l last).length<=54 * lK (k+1) l:=fun l last=>rB (fun x y q hn hy hyn=>uz k _ _ q ((hb.it hy).2 (by rw[hyn];exact hn))) l last
  have htot:=hlenB la (-1)
  have hmk:KZ (lb.length:Int) (lb.length:Int)=some ():=wI.2 ⟨by omega,by omega,by omega⟩
  rw[bU hmk]
  refine jx (X:=Nat×List Bk×List Bool×Int) (fun x=>(x.2.1,x.2.2.1,x.2.2.2,((x.1:Nat):Int))) (fun x=>la.length - x.1)
   (fun x=>x.1<=la.length/\x.2.1++pb (sY (x6 a b) k) (x6 a b) lb p (la.drop x.1) x.2.2.2=pb (sY (x6 a b) k) (x6 a b) lb p la (-1)/\x.2.2.1.length=lb.length/\∀ j<lb.length,x.2.2.1[j]?=some (gU (la.take x.1) lb j)) ?_ (0,[],List.replicate lb.length false, -1) ⟨ME _,by simp,by simp,fun j hj=>by simp[gU,hj]⟩
  rintro⟨i,out,L,last⟩ ⟨h1,h2,h3,h4⟩
  dsimp only at h1 h2 h3 h4⊢
  have hout:out.length<=54 * lK (k+1) la:=by
   have:=congrArg List.length h2
   rw[Mh] at this
   omega
  rcases Mr i la.length with hi|hi
  ·obtain⟨x,hx⟩:=eb hi
   have hm:=Mb hx
   obtain⟨hx1,hx2⟩:=ha.it hm
   have hnl:=y5 hx1
   simp only[bp hi,Mf,aw,hx,L8,JU,bU (pc (n:=p.length+(s_ x).length) oM)]
   rw[Ji hu.1 oM x,L8]
   simp only[dg]
   rw[kc hx] at h2
   simp only[pb] at h2
   cases hk:A0 x lb with
   |none=>
    rw[hk] at h2
    refine .inl ⟨(i+1,out++[⟨p++s_ x,1⟩],L,last),⟨hi, ?_,h3,GF hx hk h4⟩,by dsimp only;omega, ?_⟩
    ·rw[<-h2];simp
    ·rw[show decide (A1 none<0)=true from rfl,Mf,fZ (by simp only[MI];omega),bN i oM]
   |some q=>
    rw[hk] at h2
    obtain⟨y,hy,hye⟩:=y4 hk
    have hyd:lb.getD q ⟨[],[],0,0,[]⟩=y:=by rw[List.getD_eq_getElem?_getD,hy];rfl
    have hym:=Mb hy
    have hq:=bD hy
    obtain⟨p1,p2⟩:=Ic hb hym hye
    dsimp only at h2
    rw[hyd] at h2
    have hgy:b_ lb (A1 (some q))=some y:=by show b_ lb (q:Int)=_;rw[aw];exact hy
    have hgL:b_ L (A1 (some q))=some (gU (la.take i) lb q):=by show b_ L (q:Int)=_;rw[aw];exact h4 q hq
    have hgL2:L[(A1 (some q)).toNat]?=some (gU (la.take i) lb q):=by show L[((q:Int)).toNat]?=_;rw[Nh];exact h4 q hq
    have hset:L.set (A1 (some q)).toNat true=L.set q true:=by show L.set ((q:Int)).toNat true=_;rw[Nh]
    have hneg:decide (A1 (some q)<0)=false:=by show decide ((q:Int)<0)=false;simp
    have hlast:decide (A1 (some q)<=last)=decide ((q:Int)<=last):=rfl
    have hix:A1 (some q)=(q:Int):=rfl
    have b1:=K1 (decide ((q:Int)<=last)=true) (⟨p++s_ x,2⟩:Bk)
    have b2:=K1 (decide (x.fMin<y.fMin)=true) (⟨p++s_ x,3⟩:Bk)
    have b3:=K1 (decide (y.fMax<x.fMax)=true) (⟨p++s_ x,4⟩:Bk)
    rw[hneg,Mg,hlast,EQ oM,hgL,L8,hgL2,L8,hgy,L8,EQ (by rw[Mh];omega),L8,EQ (by rw[Mh,Mh];omega),hset,hix]
    refine .inl ⟨(i+1,out++((if(q:Int)<=last then[(⟨p++s_ x,2⟩:Bk)] else[])++yI (sY (x6 a b) k) (x6 a b) x y (p++s_ x)),L.set q true,(q:Int)),⟨hi, ?_,by rw[List.length_set];exact h3,GE hx hk h3 h4⟩,by dsimp only;omega, ?_⟩
    ·rw[<-h2];simp only[Mz]
    ·unfold yI
     by_cases hn:x.fName=[]
     ·rw[M9 hn,NH hn]
      simp only[Mm,Mg]
      rw[Lp ga gb (hx1.tag hn) (p1 hn)]
      cases hnd:x6 a b x.fTag with
      |true=>simp[bN i oM]
      |false=>
       simp only[Mo,Mf]
       rw[fZ (by simp only[Mh,MI];omega)]
       simp[bN i oM]
     ·rw[Ni hn,NY hn]
      simp only[Mo,Mf]
      have hcs:=CM (k:=k) hm hn
      rw[L8,bU (pc (n:=(p++s_ x).length+[(47:UInt8)].length) (by simp only[Mh,MI];omega)),DS ga gb k x.fItems y.fItems _ fu (hx2 hn) (p2 hn) ((hu.2 y hym) (by rw[(xc.1 hye).2];exact hn)) oM (by simp only[Mh,MI];omega) oM,L8]
      have hnb:=uz (nd:=x6 a b) k x.fItems y.fItems (p++s_ x++[47]) (p2 hn)
      rw[fZ (by simp only[Mh];omega)]
      simp[bN i oM]
  ·have hl:i=la.length:=by omega
   subst hl
   rw[Nl] at h2
   simp only[pb,Mw] at h2
   rw[MQ] at h4
   refine .inr ⟨_,by simp only[an,Mg];rfl, ?_⟩
   simp only[dg]
   rw[show(out,(0:Int))=(out++mT (fun k (y:Sl)=>if gU la lb k=false/\0<y.fMin then[(⟨p++s_ y,3⟩:Bk)] else[]) 0 [],((0:Nat):Int)) by simp[mT]]
   refine dj (uB lb (fun j pre=>(out++mT (fun k y=>if gU la lb k=false/\0<y.fMin then[(⟨p++s_ y,3⟩:Bk)] else[]) 0 pre,(j:Int))) (a:=(Sum.inl (out++DR la lb p,(lb.length:Int)):(List Bk×Int)⊕List Bk)) (fun j y hy=> ?_) ?_) ?_
   ·have hj:=bD hy
    have hpl:=uQ (b:=1) (f:=fun k (y:Sl)=>if gU la lb k=false/\0<y.fMin then[(⟨p++s_ y,3⟩:Bk)] else[]) (lb.take j) 0 (fun i e _=>by split<;>simp)
    have htl:=Ar hy
    have hnl:=y5 (hb.it (Mb hy)).1
    simp only[bp hj,Mf,aw,h4 j hj,Nh,hy,L8,aO,JU,Aq,htl,bN j oM]
    by_cases hc:gU la lb j=false/\0<y.fMin
    ·rw[NH hc,hc.1,M9 hc.2]
     simp only[Mo,Bool.and_self,Mf]
     rw[bU (pc oM),fZ (by simp only[Mh,MI];omega)]
     simp
    ·rw[NY hc]
     have:(!gU la lb j&&decide (0<y.fMin))=false:=by
      cases hl:gU la lb j with
      |true=>rfl
      |false=>simp only[Mo,Mj,MA];exact fun h=>hc ⟨hl,h⟩
     rw[this,Mg];simp
   ·simp only[an,Mg];rfl
   ·simp only[dg,sY,h2]
theorem Am {α:Type} (l:List α) (q:α->Bool) {f:Int->Option (Int⊕(Int⊕Int))}
  (hb:∀ (i:Nat) (e:α),l[i]?=some e->f (i:Int)=if q e=true then some (.inr (.inr (i:Int))) else some (.inl ((i+1:Nat):Int))) (he:f (l.length:Int)=some (.inr (.inl (l.length:Int)))):
  (dD f 0).bind (dg fun _=>some (-1))=some (A1 (l.findIdx? q)):=by
 refine jx (X:=Nat) (fun i=>((i:Nat):Int)) (fun i=>l.length - i) (fun i=>i<=l.length/\(l.take i).findIdx? q=none) ?_ 0 ⟨ME _,by simp⟩
 rintro i ⟨h1,h2⟩
 rcases Mr i l.length with hi|hi
 ·obtain⟨e,hx⟩:=eb hi
  have hsn:=cP hx
  by_cases hq:q e=true
  ·refine .inr ⟨_,by rw[hb i e hx,NH hq], ?_⟩
   have:l.findIdx? q=some i:=by
    conv=>lhs;rw[<-MM (i+1) l,hsn]
    rw[NW,NW,h2]
    simp[List.findIdx?_singleton,hq];omega
   rw[this];rfl
  ·refine .inl ⟨i+1,⟨hi, ?_⟩,by omega,by rw[hb i e hx,NY hq]⟩
   rw[hsn,NW,h2]
   simp[List.findIdx?_singleton,hq]
 ·have hl:i=l.length:=by omega
  subst hl
  rw[MQ] at h2
  exact .inr ⟨_,he,by rw[h2];rfl⟩
theorem Id {α:Type} (l:List α) (q:α->Bool):decide (0<=A1 (l.findIdx? q))=l.any q:=by
 cases h:l.findIdx? q with
 |none=>
  rw[List.findIdx?_eq_none_iff] at h
  have:l.any q=false:=by rw[List.any_eq_false];exact fun x hx=>by simp[h x hx]
  rw[this];rfl
 |some k=>
  rw[List.findIdx?_eq_some_iff_getElem] at h
  obtain⟨h1,h2, -⟩:=h
  have:l.any q=true:=Ny.2 ⟨_,List.getElem_mem h1,h2⟩
  rw[this]
  show decide (0<=(k:Int))=true
  simp
theorem ER (l:List (List UInt8)) (x:List UInt8) (hl:l.length<=1000):d_ l x=some (l.contains x):=by
 unfold d_ l7;dsimp only
 unfold iZ cw;dsimp only
 rw[Am l (fun e=>decide (x=e)) (fun i e he=>by
  simp only[bp (bD he),Mf,aw,he,L8,bN i (by have:=bD he;omega)]
  by_cases hx:x=e
  ·rw[M9 hx];rfl
  ·rw[Ni hx];rfl) (by simp only[an,Mg];rfl),L8,Id]
 congr 1
 rw[List.contains_eq_any_beq]
 congr 1
 funext e
 rw[Mp];simp
theorem Lq (l:List (List UInt8)) (hl:l.length<=1000) (f1:FuncId) (c1:List DV) (p1:List UInt8->Option Bool) (h1) (q:List UInt8->Bool) (hq:∀ a∈l,p1 a=some (q a)):cK l f1 c1 p1 h1=some (l.any q):=by
 unfold cK l7;dsimp only
 unfold gc cw;dsimp only
 rw[Am l q (fun i e he=>by
  simp only[bp (bD he),Mf,aw,he,L8,hq e (Mb he),bN i (by have:=bD he;omega)]
  cases q e<;>rfl) (by simp only[an,Mg];rfl),L8,Id]
theorem Lr (l:List Sl) (hl:l.length<=1000) (x:Sl) (f1:FuncId) (c1:List DV) (p1:Sl->Option Bool) (h1) (hq:∀ a,p1 a=some (FC x a)):bi l f1 c1 p1 h1=some (A1 (A0 x l)):=by
 unfold bi cw;dsimp only
 exact Am l (FC x) (fun i e he=>by
  simp only[bp (bD he),Mf,aw,he,L8,hq,dB,bN i (by have:=bD he;omega)]
  cases FC x e<;>rfl) (by simp only[an,Mg];rfl)
theorem Jj (a b:ap) (ha:a.fCodes.length<=1000) (hb:b.fCodes.length<=1000):kK a b=some (ux a b):=by
 unfold kK uh;dsimp only
 rw[Lq a.fCodes ha _ _ _ _ (fun c=> !b.fCodes.contains c) (fun c _=>by
  unfold ng ug;dsimp only
  rw[ER _ _ hb];rfl)]
 simp only[aO,bz,L8,DY b.fCodes,Iq]
 unfold ux
 have hall:(!a.fCodes.any fun c=> !b.fCodes.contains c)=a.fCodes.all fun c=>b.fCodes.contains c:=by
  rw[List.all_eq_not_any_not]
 rw[hall]
 cases(b.fNeeded&& !a.fNeeded|| !decide (a.fType=b.fType)&& !decide (b.fType=1)||decide (a.fMin<b.fMin)||decide (b.fMax<a.fMax)) with
 |true=>rfl
 |false=>
  simp only[Mg,Mo,Mj]
  by_cases hn:b.fCodes=[]
  ·rw[M9 hn];rfl
  ·rw[Ni hn];rfl
theorem Jk (a b:aD) (ha:a.fParts.length<=1000/\∀ p∈a.fParts,p.fCodes.length<=1000) (hb:b.fParts.length<=1000/\∀ p∈b.fParts,p.fCodes.length<=1000):iL a b=some (uy a b):=by
 unfold iL ui;dsimp only
 simp only[aO,bz,L8,CF]
 unfold uy
 cases(b.fNeeded&& !a.fNeeded||decide (b.fMost<a.fMost)||decide (b.fParts.length<a.fParts.length)) with
 |true=>rfl
 |false=>
  simp only[Mg,Mo,Mj]
  refine Eq.trans (sn b.fParts (qR (·.fNeeded) ux a.fParts) false (fun i y hy=> ?_) ?_) ?_
  ·have hi:=bD hy
   have hm:=Mb hy
   simp only[bp hi,Mf,y3,aw,hy,L8]
   unfold qR
   cases hx:a.fParts[i]? with
   |none=>simp only[Option.isNone_none,Mf];by_cases hq:y.fNeeded=true<;>simp[hq,bN i oM,mb]
   |some x=>
    simp only[Option.isNone_some,Mg,L8,Jj x y (ha.2 x (Mb hx)) (hb.2 y hm)]
    by_cases hq:ux x y=true<;>simp[hq,bN i oM,mb]
  ·simp only[an,Mg];rfl
  ·cases uw (qR (·.fNeeded) ux a.fParts) 0 b.fParts<;>rfl
theorem KE (a b:Df) (ha:a.fElements.length<=1000/\∀ e∈a.fElements,e.fParts.length<=1000/\∀ p∈e.fParts,p.fCodes.length<=1000) (hb:b.fElements.length<=1000/\∀ e∈b.fElements,e.fParts.length<=1000/\∀ p∈e.fParts,p.fCodes.length<=1000):iN a b=some (H8 a b):=by
 unfold iN uk;dsimp only
 simp only[CF]
 unfold H8
 cases decide (b.fElements.length<a.fElements.length) with
 |true=>rfl
 |false=>
  simp only[Mg,Mo,Mj]
  refine Eq.trans (sn b.fElements (qR (·.fNeeded) uy a.fElements) false (fun i y hy=> ?_) ?_) ?_
  ·have hi:=bD hy
   have hm:=Mb hy
   simp only[bp hi,Mf,y3,aw,hy,L8]
   unfold qR
   cases hx:a.fElements[i]? with
   |none=>simp only[Option.isNone_none,Mf];by_cases hq:y.fNeeded=true<;>simp[hq,bN i oM,mb]
   |some x=>
    simp only[Option.isNone_some,Mg,L8,Jk x y (ha.2 x (Mb hx)) (hb.2 y hm)]
    by_cases hq:uy x y=true<;>simp[hq,bN i oM,mb]
  ·simp only[an,Mg];rfl
  ·cases uw (qR (·.fNeeded) uy a.fElements) 0 b.fElements<;>rfl
theorem JV {s:ae} (h:GD s) {t:List UInt8} (ht:aq s.fDefs t=true):fJ s t=some (JS s t,true)/\JS s t∈s.fDefs:=by
 obtain⟨d,h1,h2⟩:=D5 s t h.rise h.len
 obtain⟨k1,k2⟩:=h2 ht
 rw[EP h.rise k1 k2]
 exact⟨by rw[h1,ht],k1⟩
theorem Lt {a b:ae} (ha:GD a) (hb:GD b) {t:List UInt8} (h1:aq a.fDefs t=true) (h2:aq b.fDefs t=true) {R:Type} (K:Bool->Option R):
  ((fJ a t).bind fun x=>(fJ b t).bind fun x_1=>(iN x.fst x_1.fst).bind K)=K (x6 a b t):=by
 obtain⟨p1,p2⟩:=JV ha h1
 obtain⟨q1,q2⟩:=JV hb h2
 rw[p1,L8,q1,L8,KE _ _ (ha.df _ p2) (hb.df _ q2)]
 rfl
theorem JW (x:Sl):oR ⟨x.fTag,x.fName,x.fMin,x.fMax,x.fItems⟩=some (s_ x):=by
 unfold oR cw;dsimp only
 unfold s_
 by_cases hn:x.fName=[]
 ·simp[hn]
 ·simp[hn]
abbrev Ly:=aA
theorem Jl {A B:ae} {l:List Bk} {p:List UInt8} {k:Int} (h:l.length<=137438953471):cE ⟨A,B,l⟩ p k=some ((),⟨A,B,l++[⟨p,k⟩]⟩):=by
 unfold cE uf;dsimp only
 rw[fZ (by simp only[MI];omega)]
theorem CG {R:Type} {c:Bool} {A B:ae} {l:List Bk} {p:List UInt8} {k:Int} {K:ae×ae×List Bk->Option R} (h:l.length<=137438953471):
  ((bif c then(cE ⟨A,B,l⟩ p k).bind fun y=>some (Sum.inl (y.snd.fa,y.snd.fb,y.snd.fbreaks)) else some (Sum.inl (A,B,l)):Option ((ae×ae×List Bk)⊕R)).bind (dg K))=K (A,B,l++(if c=true then[⟨p,k⟩] else[])):=by
 cases c with
 |true=>rw[Mf,Jl h];rfl
 |false=>simp[dg]
theorem BN:∀ (W:List (Int×Bool)) (k:Int) (v:Bool) (t:Int),jB (kA W k v) t=if t=k then some v else jB W t
 |[],k,v,t=>by simp only[kA,jB]
 |p::W,k,v,t=>by
  simp only[kA]
  by_cases h:k=p.1
  ·simp only[h,Nr,jB]
   by_cases ht:t=p.1
   ·simp[ht]
   ·simp[ht]
  ·simp only[h,MZ,jB,BN W k v t]
   by_cases ht:t=p.1
   ·have:t≠k:=fun e=>h (by rw[<-e,ht])
    rw[NH ht,NY this,NH ht]
   ·rw[NY ht,NY ht]
def DT (W:List (Int×Bool)) (la lb:List Sl):Prop:=∀ j<lb.length,(jB W (j:Int)).getD false=gU la lb j
theorem ES {la lb:List Sl} {i:Nat} {x:Sl} {k:Nat} (hx:la[i]?=some x) (hk:A0 x lb=some k) {W:List (Int×Bool)} (h:DT W (la.take i) lb):DT (kA W (k:Int) true) (la.take (i+1)) lb:=by
 intro j hj
 rw[BN,cP hx]
 have h0:=h j hj
 unfold gU at h0⊢
 rw[N6]
 simp only[List.any_cons,List.any_nil,NX,hk,L7]
 by_cases hjk:k=j
 ·subst hjk;simp
 ·rw[NY oM,h0];simp[hjk]
theorem ET {la lb:List Sl} {i:Nat} {x:Sl} (hx:la[i]?=some x) (hk:A0 x lb=none) {W:List (Int×Bool)} (h:DT W (la.take i) lb):DT W (la.take (i+1)) lb:=by
 intro j hj
 rw[h j hj,cP hx]
 unfold gU
 rw[N6]
 simp[hk]
theorem Jm {a b:ae} (ga:GD a) (gb:GD b) {rec:List Sl->List Sl->List UInt8->List Bk} {fu:Nat} {x y:Sl} {p:List UInt8} {l:List Bk} (h1:x.fName=[]->aq a.fDefs x.fTag=true) (h2:x.fName=[]->aq b.fDefs x.fTag=true) (hl:l.length<=137438953000) (hp:p.length<=900)
  (hr:∀ l',l'.length<=l.length+2->x.fName≠[]->bX fu ⟨a,b,l'⟩ x.fItems y.fItems (p++[47])=some ((),⟨a,b,l'++rec x.fItems y.fItems (p++[47])⟩)):
  co (fu+1) ⟨a,b,l⟩ x y p=some ((),⟨a,b,l++yI rec (x6 a b) x y p⟩):=by
 rw[kM];unfold oj;dsimp only;simp only[e9,e_]
 simp only[sq]
 have b1:=K1 (decide (x.fMin<y.fMin)=true) (⟨p,3⟩:Bk)
 have b2:=K1 (decide (y.fMax<x.fMax)=true) (⟨p,4⟩:Bk)
 rw[CG oM,CG (by rw[Mh];omega)]
 dsimp only
 unfold yI
 by_cases hn:x.fName=[]
 ·rw[M9 hn,NH hn]
  simp only[Mm,Mg]
  rw[Lt ga gb (h1 hn) (h2 hn)]
  cases x6 a b x.fTag with
  |true=>simp
  |false=>
   simp only[Mo,Mf]
   rw[Jl (by simp only[Mh];omega)]
   simp
 ·rw[Ni hn,NY hn]
  simp only[Mo,Mf]
  rw[bU (pc (n:=p.length+[(47:UInt8)].length) (by simp only[MI];omega)),hr _ (by simp only[Mh];omega) hn]
  simp
theorem DU {a b:ae} (ga:GD a) (gb:GD b):∀ (k:Nat) (la lb:List Sl) (p:List UInt8) (l:List Bk) (fu:Nat),AD (aq a.fDefs) k la->AD (aq b.fDefs) k lb->K0 k lb->lK k la<=300->p.length+41 * k<=400->l.length+20000 * k<=10000000->2 * k+1<=fu->
  bX fu ⟨a,b,l⟩ la lb p=some ((),⟨a,b,l++sY (x6 a b) k la lb p⟩)
 |0,_,_,_,_,_,h,_,_,_,_,_,_=>h.elim
 |k+1,_,_,_,_,0,_,_,_,_,_,_,h=>by omega
 |k+1,_,_,_,_,1,_,_,_,_,_,_,h=>by omega
 |k+1,la,lb,p,l,fu+2,ha,hb,hu,hc,hp,hl0,hf=>by
  rw[kL];unfold oj;dsimp only;simp only[e9,e_]
  have hla:=ha.len
  have hlb:=hb.len
  have hlenB:∀ (l:List Sl) (last:Int),(pb (sY (x6 a b) k) (x6 a b) lb p l last).length<=54 * lK (k+1) l:=fun l last=>rB (fun x y q hn hy hyn=>uz k _ _ q ((hb.it hy).2 (by rw[hyn];exact hn))) l last
  have htot:=hlenB la (-1)
  simp only[sq]
  refine jx (X:=Nat×List Bk×List (Int×Bool)×Int) (fun x=>(a,b,x.2.1,x.2.2.2,x.2.2.1,((x.1:Nat):Int))) (fun x=>la.length - x.1)
   (fun x=>x.1<=la.length/\x.2.1++pb (sY (x6 a b) k) (x6 a b) lb p (la.drop x.1) x.2.2.2=l++pb (sY (x6 a b) k) (x6 a b) lb p la (-1)/\DT x.2.2.1 (la.take x.1) lb) ?_ (0,l,[], -1) ⟨ME _,by simp,fun j hj=>by simp[gU,jB]⟩
  rintro⟨i,out,W,last⟩ ⟨h1,h2,h4⟩
  dsimp only at h1 h2 h4⊢
  have hout:out.length<=l.length+54 * lK (k+1) la:=by
   have:=congrArg List.length h2
   rw[Mh,Mh] at this
   omega
  rcases Mr i la.length with hi|hi
  ·obtain⟨x,hx⟩:=eb hi
   have hm:=Mb hx
   obtain⟨hx1,hx2⟩:=ha.it hm
   have hnl:=y5 hx1
   simp only[bp hi,Mf,aw,hx,L8,JW,bU (pc (n:=p.length+(s_ x).length) oM)]
   rw[Lr lb oM x _ _ _ _ (fun c=>by
    unfold f_ cw;dsimp only
    rw[aO];rfl),L8]
   rw[kc hx] at h2
   simp only[pb] at h2
   cases hk:A0 x lb with
   |none=>
    rw[hk] at h2
    refine .inl ⟨(i+1,out++[⟨p++s_ x,1⟩],W,last),⟨hi, ?_,ET hx hk h4⟩,by dsimp only;omega, ?_⟩
    ·rw[<-h2];simp
    ·rw[show decide (A1 none<0)=true from rfl,Mf,Jl oM,bN i oM];rfl
   |some q=>
    rw[hk] at h2
    obtain⟨y,hy,hye⟩:=y4 hk
    have hyd:lb.getD q ⟨[],[],0,0,[]⟩=y:=by rw[List.getD_eq_getElem?_getD,hy];rfl
    have hym:=Mb hy
    obtain⟨p1,p2⟩:=Ic hb hym hye
    dsimp only at h2
    rw[hyd] at h2
    have hgy:b_ lb (A1 (some q))=some y:=by show b_ lb (q:Int)=_;rw[aw];exact hy
    have hneg:decide (A1 (some q)<0)=false:=by show decide ((q:Int)<0)=false;simp
    have hlast:decide (A1 (some q)<=last)=decide ((q:Int)<=last):=rfl
    have b1:=K1 (decide ((q:Int)<=last)=true) (⟨p++s_ x,2⟩:Bk)
    have hit:=Jm ga gb (rec:=sY (x6 a b) k) (fu:=fu) (x:=x) (y:=y) (p:=p++s_ x) (l:=out++(if decide ((q:Int)<=last)=true then[(⟨p++s_ x,2⟩:Bk)] else[])) hx1.tag p1 (by rw[Mh];omega) (by rw[Mh];omega) (fun l' hl' hn=>by
     rw[Mh] at hl'
     have hcs:=CM (k:=k) hm hn
     exact DU ga gb k x.fItems y.fItems _ l' fu (hx2 hn) (p2 hn) ((hu.2 y hym) (by rw[(xc.1 hye).2];exact hn)) oM (by simp only[Mh,MI];omega) oM oM)
    rw[hneg,Mg,hlast,CG oM]
    simp only[hgy,L8,dB]
    rw[hit]
    refine .inl ⟨(i+1,out++((if(q:Int)<=last then[(⟨p++s_ x,2⟩:Bk)] else[])++yI (sY (x6 a b) k) (x6 a b) x y (p++s_ x)),kA W (q:Int) true,(q:Int)),⟨hi, ?_,ES hx hk h4⟩,by dsimp only;omega, ?_⟩
    ·rw[<-h2];simp only[Mz]
    ·simp only[L8,bN i oM,Ma,Mz,A1]
  ·have hl:i=la.length:=by omega
   subst hl
   rw[Nl] at h2
   simp only[pb,Mw] at h2
   rw[MQ] at h4
   refine .inr ⟨_,by simp only[an,Mg];rfl, ?_⟩
   simp only[dg]
   rw[show(a,b,out,(0:Int))=(a,b,out++mT (fun k (y:Sl)=>if gU la lb k=false/\0<y.fMin then[(⟨p++s_ y,3⟩:Bk)] else[]) 0 [],((0:Nat):Int)) by simp[mT]]
   refine dj (uB lb (fun j pre=>(a,b,out++mT (fun k (y:Sl)=>if gU la lb k=false/\0<y.fMin then[(⟨p++s_ y,3⟩:Bk)] else[]) 0 pre,(j:Int))) (a:=(Sum.inl (a,b,out++DR la lb p,(lb.length:Int)):(ae×ae×List Bk×Int)⊕(Unit×Ly))) (fun j y hy=> ?_) ?_) ?_
   ·have hj:=bD hy
    have hpl:=uQ (b:=1) (f:=fun k (y:Sl)=>if gU la lb k=false/\0<y.fMin then[(⟨p++s_ y,3⟩:Bk)] else[]) (lb.take j) 0 (fun i e _=>by split<;>simp)
    have htl:=Ar hy
    have hnl:=y5 (hb.it (Mb hy)).1
    simp only[bp hj,Mf,aw,h4 j hj,hy,L8,aO,JW,Aq,htl,bN j oM]
    by_cases hc:gU la lb j=false/\0<y.fMin
    ·rw[NH hc,hc.1,M9 hc.2]
     simp only[Mo,Bool.and_self,Mf]
     rw[bU (pc oM),Jl (by simp only[Mh];omega)]
     simp
    ·rw[NY hc]
     have:(!gU la lb j&&decide (0<y.fMin))=false:=by
      cases hl:gU la lb j with
      |true=>rfl
      |false=>simp only[Mo,Mj,MA];exact fun h=>hc ⟨hl,h⟩
     rw[this,Mg];simp
   ·simp only[an,Mg];rfl
   ·simp only[dg,sY,h2,Mz,sq]
theorem AG {S A:Type} {f:S->Option (S⊕A)} {s s':S} {r:Option A} (h:f s=some (.inl s')) (hr:dD f s'=r):dD f s=r:=by rw[ck,h];exact hr
theorem ze {S A:Type} {f:S->Option (S⊕A)} {s:S} {a:A} (h:f s=some (.inr a)):dD f s=some a:=by rw[ck,h]
theorem BZ {A R:Type} {m:Option A} {k:A->Option R} {a:A} {r:Option R} (h:m=some a) (hk:k a=r):m.bind k=r:=by rw[h];exact hk
theorem E4:qN [66,71,77]=some true:=by rw[Ij _ oD];rfl
theorem IG:jU [{fTag:=[66,71,77],fElements:=[]}]=some 0:=by
 unfold jU dI;dsimp only
 refine dj (a:= .inl 1) (AG (s':=1) ?_ (ze rfl)) rfl
 simp only[E4,b_,L8]
 refine dj (a:= .inl ()) (ze rfl) rfl
theorem Ec:cd {fmany:=0} {fName:=[],fSegment:={fTag:=[66,71,77],fElements:=[]},fKids:=[]} 0=some (0,{fmany:=1}):=by
 unfold cd rY;dsimp only
 rw[IG];rfl
theorem GY:lH [{fName:=[],fSegment:={fTag:=[66,71,77],fElements:=[]},fKids:=[]}]=some 0:=by
 unfold lH sd;dsimp only
 unfold go r_;dsimp only
 refine BZ (a:=(0,{fmany:=1})) (dj (a:= .inl (1,1)) (AG (s':=(1,1)) ?_ (ze rfl)) rfl) rfl
 show(cd {fmany:=0} {fName:=[],fSegment:={fTag:=[66,71,77],fElements:=[]},fKids:=[]} 0).bind _=_
 rw[Ec];rfl
theorem GZ:h_ [66,71,77] 47=some (-1):=by
 unfold h_ ka;dsimp only
 unfold eC dI;dsimp only
 refine BZ (a:= -1) (dj (a:= .inl (-1)) (AG (s':=1) rfl (AG (s':=0) rfl (AG (s':= -1) rfl (ze rfl)))) rfl) rfl
theorem IH:p5 [66,71,77]=some ({fNames:=[],fTag:=[66,71,77],fElement:=0,fPart:=0},true):=by
 have hs:li [66,71,77] [46]=some [[66,71,77]]:=by
  unfold li
  rw[NH oD]
  decide
 unfold p5 rZ;dsimp only
 rw[show UInt8.ofNat (Int.toNat 47)=47 from rfl,GZ,L8,hs]
 simp only[show decide ((0:Int)<= -1)=false from rfl,Mg,L8,show b_ [[(66:UInt8),71,77]] 0=some [66,71,77] from rfl,E4]
 refine dj (a:= .inl ()) (ze rfl) rfl
theorem FW:mJ [{fName:=[],fSegment:={fTag:=[66,71,77],fElements:=[]},fKids:=[]}] {fNames:=[],fTag:=[66,71,77],fElement:=0,fPart:=0}=some [[66,71,77]]:=by
 unfold mJ ka;dsimp only
 unfold sG dI;dsimp only
 refine BZ (dj (a:= .inl ()) (ze rfl) rfl) ?_
 refine dj (a:= .inl ([[66,71,77]],1)) (AG (s':=([[66,71,77]],1)) (dj (a:= .inl ([[66,71,77]],1)) (AG (s':=([[66,71,77]],1)) rfl (ze rfl)) rfl) (ze rfl)) rfl
theorem FX:ia=some true:=by
 unfold ia sf;dsimp only
 unfold vp se;dsimp only
 unfold p6 sc;dsimp only
 rw[GY,IH]
 show(((mJ _ {fNames:=[],fTag:=[66,71,77],fElement:=0,fPart:=0}).bind _).bind _)=_
 rw[FW];rfl
theorem BO {s:ae} (h:CU s=0):GD s/\AD (aq s.fDefs) 8 s.fItems/\K0 8 s.fItems/\lK 8 s.fItems<=300:=by
 have hu:=Lo h
 unfold CU at h
 split at h
 ·cases h
 split at h
 ·rename_i c2;exact absurd h c2
 rename_i c2
 have c2:=NT.1 c2
 split at h
 ·rename_i c3;exact absurd h c3
 rename_i c3
 have c3:=NT.1 c3
 obtain⟨k1,k2⟩:=uE _ 8 s.fItems 0 0 c3
 obtain⟨-,k4⟩:=uD (aq s.fDefs) 8 (l:=s.fItems) (deep:=0) (many:=0) oM oM c3
 have hl:=Av c2
 refine⟨⟨BT c2,by omega,fun d hd=> ?_⟩,k1,hu,by rw[k2] at k4;omega⟩
 have hc:=c2
 unfold rD at hc
 rw[NY oM] at hc
 obtain⟨q,hq⟩:=xj hc d hd
 unfold At at hq
 split at hq
 ·cases hq
 split at hq
 ·cases hq
 unfold GK at hq
 split at hq
 ·cases hq
 rename_i e1
 refine⟨by omega,fun e he=> ?_⟩
 obtain⟨_,he0⟩:=xj hq e he
 unfold yJ at he0
 split at he0
 ·cases he0
 split at he0
 ·cases he0
 split at he0
 ·cases he0
 rename_i e2
 refine⟨by omega,fun p hp=> ?_⟩
 obtain⟨_,hp0⟩:=xj he0 p hp
 unfold vt at hp0
 split at hp0
 ·cases hp0
 split at hp0
 ·cases hp0
 split at hp0
 ·cases hp0
 split at hp0
 ·cases hp0
 omega
def K2 (a b:ae):List Bk×Int:=if CU a≠0 then([],CU a) else if CU b≠0 then([],CU b) else if a.fKind≠b.fKind then([],6) else(sY (x6 a b) 8 a.fItems b.fItems [],0)
theorem EU (a b:ae) (ha:Jw a) (hb:Jw b):fS a b=some (K2 a b):=by
 have hFU:=CC
 unfold fS ue;dsimp only
 rw[vu a ha,L8]
 unfold K2
 by_cases h1:CU a=0
 ·rw[NY (not_not_intro h1),M9 h1,vu b hb]
  simp only[Mm,Mg,L8]
  by_cases h2:CU b=0
  ·rw[NY (not_not_intro h2),M9 h2]
   simp only[Mm,Mg]
   by_cases h3:a.fKind=b.fKind
   ·rw[NY (not_not_intro h3),M9 h3]
    obtain⟨g1,g2, -,g4⟩:=BO h1
    obtain⟨k1,k2,k3, -⟩:=BO h2
    simp only[Mm,Mg]
    rw[DS g1 k1 8 a.fItems b.fItems [] FU g2 k2 k3 g4 oS oM];rfl
   ·rw[NH h3,Ni h3];rfl
  ·rw[NH h2,Ni h2];rfl
 ·rw[NH h1,Ni h1];rfl
theorem EV (a b:ae) (ha:Jw a) (hb:Jw b):mP a b=some (K2 a b):=by
 have hFU:=CC
 unfold mP ul;dsimp only
 have s0:b_ [a,b] (0:Int)=some a:=rfl
 have s1:b_ [a,b] (1:Int)=some b:=rfl
 unfold K2
 by_cases h1:CU a=0
 ·by_cases h2:CU b=0
  ·rw[NY (not_not_intro h1),NY (not_not_intro h2)]
   refine dj (a:= .inl 2) (AG (s':=1) ?_ (AG (s':=2) ?_ (ze rfl))) ?_
   ·rw[show decide ((0:Int)<2)=true from rfl,Mf,s0,L8,lf a ha,L8,M9 h1];rfl
   ·rw[show decide ((1:Int)<2)=true from rfl,Mf,s1,L8,lf b hb,L8,M9 h2];rfl
   ·simp only[dg]
    by_cases h3:a.fKind=b.fKind
    ·rw[NY (not_not_intro h3),M9 h3]
     obtain⟨g1,g2, -,g4⟩:=BO h1
     obtain⟨k1,k2,k3, -⟩:=BO h2
     simp only[Mm,Mg,sq]
     rw[DU g1 k1 8 a.fItems b.fItems [] [] FU g2 k2 k3 g4 oS oS oM];rfl
    ·rw[NH h3,Ni h3];rfl
  ·rw[NY (not_not_intro h1),NH h2]
   refine dj (a:= .inr ([],CU b)) (AG (s':=1) ?_ (ze ?_)) rfl
   ·rw[show decide ((0:Int)<2)=true from rfl,Mf,s0,L8,lf a ha,L8,M9 h1];rfl
   ·rw[show decide ((1:Int)<2)=true from rfl,Mf,s1,L8,lf b hb,L8,Ni h2];rfl
 ·rw[NH h1]
  refine dj (a:= .inr ([],CU a)) (ze ?_) rfl
  rw[show decide ((0:Int)<2)=true from rfl,Mf,s0,L8,lf a ha,L8,Ni h1];rfl
theorem Jn (l:List Bk) (hl:l.length<=1000000):bj l l=some true:=by
 unfold bj sg;dsimp only
 rw[M9 rfl]
 refine Eq.trans (nL l (fun _=>true) false (fun i e he=> ?_) ?_) ?_
 ·have hi:=bD he
  simp only[bp hi,Mf,aw,he,L8,bN i oM]
  simp
 ·simp only[an,Mg];rfl
 ·simp
theorem KF {a b:ae}:(K2 a b).1.length<=1000000:=by
 unfold K2
 split
 ·simp
 split
 ·simp
 split
 ·simp
 rename_i h1 h2 h3
 obtain⟨-, -, -,g4⟩:=BO (NT.1 h1)
 obtain⟨-,k2, -, -⟩:=BO (NT.1 h2)
 have:=uz (nd:=x6 a b) 8 a.fItems b.fItems [] k2
 simp only;omega
theorem CH (a b:ae) (ha:Jw a) (hb:Jw b):bt a b=some true:=by
 unfold bt si;dsimp only
 rw[EV a b ha hb,EU a b ha hb,L8,L8,Jn _ KF,FX]
 simp only[L8,aO,NF,Bool.and_self]
theorem KG:∀ {b:ac},j2 b->CT b:=by
 intro b h
 induction h with
 |mk ht hn _ _ hl hk ih=>exact .mk ht hn hl ih
theorem Ie {s:ae} (h:i_ s):Jw s:=⟨h.1,h.2.1,fun d hd=>(h.2.2.1.2 d hd).1,fun x hx=>KG (h.2.2.2.2 x hx)⟩
theorem A2 (a b:ae) (ha:i_ a) (hb:i_ b):bt a b=some true:=CH a b (Ie ha) (Ie hb)
end Go.Proofs.YteaolfcegaidpaaGreatDoor
