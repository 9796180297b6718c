/-
  Laws on the way to the theorem.
-/
import Derived.Test.YteaolfcegaidpaaGreatDoorBY6
import Derived.Lib.Bytealg
namespace Go.Proofs.YteaolfcegaidpaaGreatDoor
open Go.RowKit
set_option linter.unusedSimpArgs false
set_option linter.unusedVariables false
def xN:List UInt8:=[65,66,67,68,69,70,71,72,73,74,75,76,77,78,79,80,81,82,83,84,85,86,87,88,89,90,48,49,50,51,52,53,54,55,56,57]
theorem Em (l:List UInt8) (hl:l.length<=9223372036854775807):pX l=some (decide (Lib.trimS l xN=[])):=by
 unfold pX cA;dsimp only
 have:ex l xN=some (Lib.trimS l xN):=by unfold ex;rw[Qa ⟨hl,by decide,by decide⟩]
 simp only[xN] at this⊢
 rw[this]
 rfl
theorem o7 {p:UInt8->Bool}:∀ {l:List UInt8},l.dropWhile p=[]↔∀ x∈l,p x=true
 |[]=>by simp
 |a::l=>by
  rw[List.dropWhile_cons]
  by_cases h:p a=true
  ·simp[h,o7 (l:=l)]
  ·simp[h]
theorem vY {p:UInt8->Bool} {a:UInt8} {r:List UInt8}:∀ {l:List UInt8},l.dropWhile p=a::r->p a=false
 |[],h=>by simp at h
 |b::l,h=>by
  rw[List.dropWhile_cons] at h
  by_cases hp:p b=true
  ·simp only[hp,PR] at h;exact vY h
  ·simp only[hp] at h
   simp at h;rw[<-h.1];simpa using hp
theorem B8 (l cs:List UInt8):Lib.trimS l cs=[]↔∀ x∈l,cs.contains x=true:=by
 unfold Lib.trimS Lib.trimLeftS Lib.trimRightS
 constructor
 ·intro h
  have h1:List.dropWhile (fun x=>cs.contains x) l.reverse=[]:=by
   cases hr:List.dropWhile (fun x=>cs.contains x) l.reverse with
   |nil=>rfl
   |cons a r=>
    exfalso
    have h2:=vY hr
    rw[hr,o7] at h
    have h3:=h a oS
    rw[h2] at h3;cases h3
  rw[o7] at h1
  intro x hx
  exact h1 x (by simpa using hx)
 ·intro h
  have h1:List.dropWhile (fun x=>cs.contains x) l.reverse=[]:=o7.2 fun x hx=>h x (by simpa using hx)
  rw[h1];rfl
def zE (b:UInt8):Bool:=decide (65<=(b.toNat:Int))&&decide ((b.toNat:Int)<=90)
def yP (b:UInt8):Bool:=zE b|| !(decide ((b.toNat:Int)<48)||decide (57<(b.toNat:Int)))
theorem J6:(List.range 256).all (fun n=>xN.contains (UInt8.ofNat n)==yP (UInt8.ofNat n))=true:=oK
theorem Lx (b:UInt8):xN.contains b=yP b:=by
 have:=Pa.1 J6 b.toNat (PI.2 b.toNat_lt)
 have hb:UInt8.ofNat b.toNat=b:=by simp
 rw[hb] at this
 simpa using this
def Fw:List UInt8:=[65,66,67,68,69,70,71,72,73,74,75,76,77,78,79,80,81,82,83,84,85,86,87,88,89,90]
theorem J7:(List.range 256).all (fun n=>decide (0<=Lib.indexByte Fw (UInt8.ofNat n))==zE (UInt8.ofNat n))=true:=oK
theorem Ly (b:UInt8):decide (0<=Lib.indexByte Fw b)=zE b:=by
 have:=Pa.1 J7 b.toNat (PI.2 b.toNat_lt)
 have hb:UInt8.ofNat b.toNat=b:=by simp
 rw[hb] at this
 simpa using this
theorem J8 (l:List UInt8):decide (Lib.trimS l xN=[])=l.all yP:=by
 rw[O1,OC,B8,Pa]
 simp only[Lx]
def yQ:List UInt8->Bool
 |[]=>false
 |b::l=>decide (1<=l.length)&&decide (l.length<=5)&&zE b&&l.all yP
theorem Hi (l:List UInt8) (hl:l.length<=9223372036854775807):sf l=some (yQ l):=by
 unfold sf m8;dsimp only
 cases l with
 |nil=>rfl
 |cons b l=>
  have hg:dg (b::l) 0=some b:=rfl
  have hi:qe Fw b=some (Lib.indexByte Fw b):=rfl
  have hu:([65,66,67,68,69,70,71,72,73,74,75,76,77,78,79,80,81,82,83,84,85,86,87,88,89,90]:List UInt8)=Fw:=rfl
  simp only[Em (b::l) hl,J8,hg,hu,hi,OA,bP,Ly,yQ]
  have h1:decide ((2:Int)<=((b::l).length:Int))=decide (1<=l.length):=by simp only[OW];congr 1;apply propext;omega
  have h2:decide (((b::l).length:Int)<=6)=decide (l.length<=5):=by simp only[OW];congr 1;apply propext;omega
  rw[h1,h2]
  cases hb:zE b with
  |false=>simp
  |true=>simp[yP,hb]
def En (i:Nat) (b:UInt8):Bool:=zE b||(decide (i≠0)&&yP b)
theorem J9 (l:List UInt8) (hl:l.length<=9223372036854775807):gg l=some ((match l with|[]=>true|b::l=>zE b&&l.all yP)&&decide (l.length<=6)):=by
 unfold gg cA;dsimp only
 have key:=Il (f:=fun s=>bif decide (s<(l.length:Int)) then(dg l s).bind fun e=>(kn (decide (65<=(e.toNat:Int))) ((dg l s).bind fun e=>some (decide ((e.toNat:Int)<=90)))).bind fun v=>(kn (!v) ((Dl (decide (s=0)) ((dg l s).bind fun e=>some (decide ((e.toNat:Int)<48)))).bind fun v=>(Dl v ((dg l s).bind fun e=>some (decide (57<(e.toNat:Int))))).bind fun v=>some v)).bind fun v=>bif v then cS (cS (some false)) else some (Sum.inl (IntKind.i64.wrap (s+1))) else cS (some (Sum.inl s)))
  l (fun i (_:Unit)=>(i:Int)) (fun i _ e=>if En i e=true then some (.inl ()) else some (.inr (.inr false))) (fun _=>some (Sum.inl (l.length:Int))) (fun i e s he=> ?_) (fun s=> ?_) ()
 ·rw[show((0:Nat):Int)=0 from rfl] at key
  rw[key]
  have h2:∀ (t:List UInt8) (i:Nat),0<i->Fz (fun i (_:Unit) e=>if En i e=true then some (.inl ()) else some (.inr (.inr false))) (fun _=>some (Sum.inl (l.length:Int))) t i ()=if t.all yP=true then some (Sum.inl (l.length:Int)) else some (.inr false):=by
   intro t
   induction t with
   |nil=>intro i _;rfl
   |cons b t ih=>
    intro i hi
    simp only[Fz]
    have:En i b=yP b:=by
     unfold En
     rw[PG (show i≠0 by omega),OZ]
     unfold yP
     cases zE b<;>simp
    rw[this]
    cases hb:yP b with
    |true=>simp only[PR,ih (i+1) oM,Qs,hb,OZ]
    |false=>simp[hb]
  cases l with
  |nil=>rfl
  |cons b l=>
   simp only[Fz]
   have h3:En 0 b=zE b:=by unfold En;cases zE b<;>simp
   have h4:decide (((b::l).length:Int)<=6)=decide ((b::l).length<=6):=by congr 1;apply propext;omega
   rw[h3]
   cases hb:zE b with
   |false=>simp[bX,hb]
   |true=>
    simp only[PR]
    rw[h2 l 1 oM]
    cases hl:l.all yP with
    |true=>simp[bX,hb,h4];omega
    |false=>simp[bX,hb]
 ·have hi:=bI he
  simp only[bH hi,OL,av,he,OA,bP,cX,cG i oM]
  have h0:decide ((i:Int)=0)=decide (i=0):=by congr 1;apply propext;omega
  have h1:(!(decide (65<=(e.toNat:Int))&&decide ((e.toNat:Int)<=90))&&(decide ((i:Int)=0)||decide ((e.toNat:Int)<48)||decide (57<(e.toNat:Int))))= !En i e:=by
   rw[h0]
   unfold En yP zE
   cases decide (65<=(e.toNat:Int))<;>cases decide ((e.toNat:Int)<=90)<;>by_cases hi0:i=0<;>simp[hi0]
  rw[h1]
  cases En i e<;>rfl
 ·simp only[ar,OO];rfl
theorem Mk (l:List UInt8) (hl:l.length<=9223372036854775807):i_ l=some (yQ l):=by
 unfold i_ m8;dsimp only
 simp only[J9 l hl,OA,bP]
 cases l with
 |nil=>rfl
 |cons b l=>
  have h1:decide ((2:Int)<=((b::l).length:Int))=decide (1<=l.length):=by simp only[OW];congr 1;apply propext;omega
  have h2:decide ((b::l).length<=6)=decide (l.length<=5):=by simp only[OW];congr 1;apply propext;omega
  rw[h1,h2]
  simp only[yQ]
  cases zE b<;>cases l.all yP<;>simp
theorem xR:∀ a b:List UInt8,(Lib.compareBytes a b=0/\a=b)\/(Lib.compareBytes a b= -1/\Op.bytesLess a b=true)\/(Lib.compareBytes a b=1/\Op.bytesLess b a=true)
 |[],[]=> .inl ⟨rfl,rfl⟩
 |[],_::_=> .inr (.inl ⟨rfl,rfl⟩)
 |_::_,[]=> .inr (.inr ⟨rfl,rfl⟩)
 |a::u,b::v=>by
  unfold Lib.compareBytes Op.bytesLess
  by_cases h1:a<b
  ·simp[h1]
  ·by_cases h2:b<a
   ·simp[h1,h2]
   ·have e:a=b:=by
     rw[UInt8.lt_iff_toNat_lt] at h1 h2
     exact UInt8.toNat_inj.1 oM
    subst e
    have:=xR u v
    simpa[h1] using this
theorem mK:∀ a:List UInt8,Op.bytesLess a a=false
 |[]=>rfl
 |a::l=>by simp[Op.bytesLess,mK l]
theorem ux:∀ {a b c:List UInt8},Op.bytesLess a b=true->Op.bytesLess b c=true->Op.bytesLess a c=true
 |_,[],_,h,_=>by simp[Op.bytesLess] at h
 |_,_::_,[],_,h=>by simp[Op.bytesLess] at h
 |[],_::_,_::_,_,_=>rfl
 |a::u,b::v,c::w,h,k=>by
  simp only[Op.bytesLess,O3,OC,Oz,OI] at h k⊢
  rcases h with h|⟨rfl,h⟩
  ·rcases k with k|⟨rfl,k⟩
   ·exact .inl (UInt8.lt_trans h k)
   ·exact .inl h
  ·rcases k with k|⟨rfl,k⟩
   ·exact .inl k
   ·exact .inr ⟨rfl,ux h k⟩
theorem I3 {a b:List UInt8} (h:Op.bytesLess a b=true):Op.bytesLess b a=false:=by
 cases hb:Op.bytesLess b a with
 |false=>rfl
 |true=>have:=ux h hb;rw[mK] at this;cases this
theorem Mq (a b:List UInt8):a=b\/Op.bytesLess a b=true\/Op.bytesLess b a=true:=by
 rcases xR a b with h|h|h
 ·exact .inl h.2
 ·exact .inr (.inl h.2)
 ·exact .inr (.inr h.2)
theorem Mb {a b:List UInt8}:Lib.compareBytes a b<0↔Op.bytesLess a b=true:=by
 rcases xR a b with⟨h,e⟩|⟨h,e⟩|⟨h,e⟩
 ·subst e;rw[h,mK];simp
 ·rw[h,e];simp
 ·rw[h,I3 e];simp
theorem Nv {a b:List UInt8}:Lib.compareBytes a b=0↔a=b:=by
 rcases xR a b with⟨h,e⟩|⟨h,e⟩|⟨h,e⟩
 ·subst e;rw[h];simp
 ·rw[h];constructor
  ·intro h;omega
  ·rintro rfl;rw[mK] at e;cases e
 ·rw[h];constructor
  ·intro h;omega
  ·rintro rfl;rw[mK] at e;cases e
def I4 (l:List (List UInt8)):Prop:=∀ i a b,l[i]?=some a->l[i+1]?=some b->Op.bytesLess a b=true
theorem I4.lt {l:List (List UInt8)} (h:I4 l):∀ {i j:Nat} {a b:List UInt8},i<j->l[i]?=some a->l[j]?=some b->Op.bytesLess a b=true:=by
 intro i j a b hij ha hb
 obtain⟨k,rfl⟩:∃ k,j=i+1+k:=⟨j - (i+1),by omega⟩
 clear hij
 induction k generalizing b with
 |zero=>exact h i a b ha hb
 |succ k ih=>
  have hlt:i+1+k<l.length:=by have:=(OG.1 hb).1;omega
  have hc:=OJ hlt
  exact ux (ih hc) (h _ _ _ hc hb)
abbrev MX:Nat:=9223372036854775807
abbrev Sl:=ao
inductive Hp:Sl->Prop
 |mk {x:Sl}:x.fTag.length<=MX->x.fName.length<=MX->x.fItems.length<=MX->(∀ a∈x.fItems,Hp a)->Hp x
theorem Hp.tag {x:Sl} (h:Hp x):x.fTag.length<=MX:=by cases h;assumption
theorem Hp.name {x:Sl} (h:Hp x):x.fName.length<=MX:=by cases h;assumption
theorem Hp.items {x:Sl} (h:Hp x):∀ a∈x.fItems,Hp a:=by cases h;assumption
def tU (x:Sl):Bool:=yQ x.fTag&&decide (x.fName=[])&&decide (x.fItems=[])
def v_ (x:Sl):Bool:= !decide (x.fName=[])&&decide (x.fTag=[])&&(match x.fItems with|[]=>false|y::_=>tU y&&decide (y.fMin=1)&&decide (y.fMax=1))
def lK (x:Sl):List UInt8:=match x.fItems with|[]=>x.fTag|y::_=>y.fTag
theorem Ko {α:Type} (l:List α):decide ((l.length:Int)=0)=decide (l=[]):=by
 cases l with
 |nil=>rfl
 |cons a l=>simp;omega
theorem NW {α:Type} (l:List α):decide (0<(l.length:Int))= !decide (l=[]):=by
 cases l with
 |nil=>rfl
 |cons a l=>simp
theorem Ml (x:Sl) (h:Hp x):mH x=some (tU x):=by
 unfold mH pu;dsimp only
 rw[Hi _ h.tag]
 simp only[OA,bP,Ko];rfl
theorem NX (x:Sl) (h:Hp x):oQ x=some (v_ x):=by
 unfold oQ vV;dsimp only
 simp only[bP,OA,NW]
 unfold v_
 cases hx:x.fItems with
 |nil=>simp[kn]
 |cons y l=>
  have hy:=h.items y (by rw[hx];exact O9 ..)
  have hg:dg (y::l) 0=some y:=rfl
  simp only[hg,OA,l_,Ml y hy,bP]
  simp only[reduceCtorEq,Qj,Po,Bool.and_true,Bool.and_assoc]
def Ix (x:Sl):Prop:=tU x=true\/v_ x=true
theorem Ix.seg {x:Sl} (h:Ix x) (hn:x.fName=[]):tU x=true:=by
 rcases h with h|h
 ·exact h
 ·simp[v_,hn] at h
theorem Ix.grp {x:Sl} (h:Ix x) (hn:x.fName≠[]):v_ x=true:=by
 rcases h with h|h
 ·simp[tU,hn] at h
 ·exact h
theorem Kp {x:Sl} (h:Ix x):ii x=some (lK x):=by
 unfold ii cA;dsimp only
 unfold lK
 by_cases hn:x.fName=[]
 ·have hs:=h.seg hn
  simp only[tU,Oz,OC] at hs
  rw[hs.2,PG hn];rfl
 ·have hg:=h.grp hn
  rw[Ql hn]
  unfold v_ at hg
  cases hx:x.fItems with
  |nil=>rw[hx] at hg;simp at hg
  |cons y l=>rfl
abbrev Df:=ah
def Dy (l:List Df):Prop:=I4 (l.map (·.fTag))
def bJ (l:List Df) (t:List UInt8):Bool:=l.any fun d=>decide (d.fTag=t)
def cz:List Int->Int
 |[]=>0
 |x::l=>x+4294967296 * cz l
def sB (l:List Int):Prop:=∀ x∈l,0<=x/\x<4294967296
def KT (l:List Int):Prop:=∀ x,l.getLast?=some x->x≠0
theorem sB.tail {x:Int} {l:List Int} (h:sB (x::l)):sB l:=fun y hy=>h y (Pk _ hy)
theorem sB.app {a b:List Int} (h:sB a) (k:sB b):sB (a++b):=fun x hx=>(OV.1 hx).elim (h x) (k x)
theorem sB.get {l:List Int} (h:sB l) {i:Nat} {x:Int} (hx:l[i]?=some x):0<=x/\x<4294967296:=h x (OE hx)
theorem sB.set {l:List Int} (h:sB l) (i:Nat) {x:Int} (hx:0<=x/\x<4294967296):sB (l.set i x):=fun y hy=>by
 rcases List.mem_or_eq_of_mem_set hy with hy|rfl
 ·exact h y hy
 ·exact hx
theorem L6:sB []:=fun x hx=>by simp at hx
theorem L7 (n:Nat):sB (List.replicate n 0):=fun x hx=>by
 rw[List.eq_of_mem_replicate hx];omega
theorem wc:∀ a b:List Int,cz (a++b)=cz a+4294967296^a.length * cz b
 |[],b=>by simp[cz]
 |x::a,b=>by
  simp only[OM,cz,wc a b,OW,QE,Qi]
  rw[Qu,<-Int.mul_assoc,Int.mul_comm (4294967296^a.length) 4294967296]
theorem HA:∀ {l:List Int},sB l->0<=cz l
 |[],_=>PK _
 |x::l,h=>by
  have h1:=h x (O9 ..)
  have h2:=HA h.tail
  unfold cz;omega
theorem FN:∀ n,cz (List.replicate n 0)=0
 |0=>rfl
 |n+1=>by simp[Qy,cz,FN n]
theorem Cl:∀ {l:List Int} {i:Nat} {y:Int} (x:Int),l[i]?=some y->cz (l.set i x)=cz l+4294967296^i * (x - y)
 |[],i,y,x,h=>by simp at h
 |z::l,0,y,x,h=>by
  simp at h;subst h
  simp only[List.set_cons_zero,cz,Int.pow_zero];omega
 |z::l,i+1,y,x,h=>by
  simp only[Pn] at h
  simp only[List.set_cons_succ,cz,Cl x h,QE,Qi]
  rw[Qu,<-Int.mul_assoc,Int.mul_comm (4294967296^i) 4294967296]
theorem Cm (x:Int):cz [x]=x:=by simp[cz]
theorem Ew:∀ {l:List Int},sB l->KT l->l≠[]->4294967296^(l.length - 1)<=cz l
 |[],_,_,h=>absurd rfl h
 |[x],h,n,_=>by
  have h1:=h x (O9 ..)
  have h2:=n x rfl
  simp only[cz,OW,Pr,Ps,QG,Int.pow_zero];omega
 |x::y::l,h,n,_=>by
  have h1:=h x (O9 ..)
  have h2:=Ew (l:=y::l) h.tail (fun z hz=>n z (by simpa[List.getLast?_cons_cons] using hz)) oS
  have e:(x::y::l).length - 1=(y::l).length - 1+1:=by simp
  rw[e,QE]
  have h3:cz (x::y::l)=x+4294967296 * cz (y::l):=rfl
  omega
theorem FO {l:List Int} (h:sB l) (n:KT l):cz l=0↔l.length=0:=by
 constructor
 ·intro hv
  by_cases he:l=[]
  ·simp[he]
  ·have h1:=Ew h n he
   have h2:(0:Int)<4294967296^(l.length - 1):=Int.pow_pos oM
   omega
 ·intro hl
  rw[OX.1 hl];rfl
theorem IQ {l:List Int} (h:sB l) (n:KT l) (hl:2<l.length):18446744073709551616<=cz l:=by
 have h1:=Ew h n (by intro e;rw[e] at hl;simp at hl)
 obtain⟨k,hk⟩:∃ k,l.length - 1=2+k:=⟨l.length - 3,by omega⟩
 rw[hk,Int.pow_add] at h1
 have h2:(0:Int)<4294967296^k:=Int.pow_pos oM
 omega
theorem IR {out:List Int} {j:Nat} {o c m t:Int} (ho:out[j]?=some o) (ht:t=c+(o+m)):
  cz (out.set j (t%4294967296))+4294967296^(j+1) * (t/4294967296)=cz out+4294967296^j * (c+m):=by
 rw[Cl _ ho,QE,Int.mul_assoc,Qu,<-Qi]
 congr 2
 omega
theorem IU {out:List Int} {c m t:Int} (ht:t=c+m):
  cz (out++[t%4294967296])+4294967296^(out.length+1) * (t/4294967296)=cz out+4294967296^out.length * (c+m):=by
 rw[wc,Cm,QE,Int.mul_assoc,Qu,<-Qi]
 congr 2
 omega
theorem ww {l:List Int} {i:Nat} {x:Int} (h:l[i]?=some x):cz (l.take (i+1))=cz (l.take i)+4294967296^i * x:=by
 have hlt:=(OG.1 h).1
 rw[List.take_add_one,h,wc,OT,QB oM]
 simp[cz]
theorem Ex {n:Int} (h0:0<=n) (h1:n<18446744073709551616):IntKind.u64.wrap n=n:=by
 have e:IntKind.u64.wrap n=n%18446744073709551616:=by simp[IntKind.wrap,IntKind.bits,IntKind.signed]
 rw[e];omega
theorem Np (n:Int):IntKind.u32.wrap n=n%4294967296:=by simp[IntKind.wrap,IntKind.bits,IntKind.signed]
theorem L8 {x y:Int} (hx:0<=x/\x<4294967296) (hy:0<=y/\y<4294967296):EC .or .u64 x (y * 4294967296)=x+4294967296 * y:=by
 obtain⟨a,rfl⟩:=Int.eq_ofNat_of_zero_le hx.1
 obtain⟨b,rfl⟩:=Int.eq_ofNat_of_zero_le hy.1
 have ha:a<2^32:=by have:=hx.2;omega
 have hb:b<2^32:=by have:=hy.2;omega
 have e1:(BitVec.ofInt IntKind.u64.bits (a:Int)).toNat=a:=by
  rw[BitVec.ofInt_natCast,BitVec.toNat_ofNat];exact Nat.mod_eq_of_lt (by show a<2^64;omega)
 have e2:(BitVec.ofInt IntKind.u64.bits ((b:Int) * 4294967296)).toNat=b * 4294967296:=by
  have:((b:Int) * 4294967296)=((b * 4294967296:Nat):Int):=by omega
  rw[this,BitVec.ofInt_natCast,BitVec.toNat_ofNat];exact Nat.mod_eq_of_lt (by show _<2^64;omega)
 have e3:b<<<32+a=b<<<32|||a:=Nat.shiftLeft_add_eq_or_of_lt ha b
 have e4:b<<<32=b * 4294967296:=Nat.shiftLeft_eq b 32
 simp only[EC,BitVec.toNat_or,e1,e2]
 rw[Nat.or_comm,<-e4,<-e3,e4,Ex oM oM]
 omega
theorem HB {x:Int} (hx:0<=x/\x<4294967296):EC .or .u64 0 x=x:=by
 obtain⟨a,rfl⟩:=Int.eq_ofNat_of_zero_le hx.1
 have e1:(BitVec.ofInt IntKind.u64.bits (a:Int)).toNat=a:=by
  rw[BitVec.ofInt_natCast,BitVec.toNat_ofNat];exact Nat.mod_eq_of_lt (by show a<2^64;omega)
 have e0:(BitVec.ofInt IntKind.u64.bits (0:Int)).toNat=0:=by decide
 simp only[EC,BitVec.toNat_or,e1,e0,Nat.zero_or]
 exact Ex oM oM
def cM (n:Int):List UInt8->Int
 |[]=>n
 |c::l=>cM (10 * n+((c.toNat:Int) - 48)) l
def tW (l:List UInt8):Prop:=∀ c∈l,48<=c.toNat/\c.toNat<=57
theorem AP:∀ {l:List UInt8} {n:Int},tW l->0<=n->n<=cM n l
 |[],n,_,_=>PK _
 |c::l,n,h,h0=>by
  have h1:=h c (O9 ..)
  have:=AP (l:=l) (n:=10 * n+((c.toNat:Int) - 48)) (fun x hx=>h x (Pk _ hx)) oM
  unfold cM;omega
theorem AQ {l:List UInt8} {n:Int} (h:tW l) (h0:0<=n):0<=cM n l:=Int.le_trans h0 (AP h h0)
theorem Cn:∀ (a b:List UInt8) (n:Int),cM n (a++b)=cM (cM n a) b
 |[],b,n=>rfl
 |c::a,b,n=>by simp only[OM,cM];exact Cn a b _
theorem IO (l:List Int) (h:sB l) (hl:l.length<=1000):∃ t,pJ l=some t/\sB t/\KT t/\cz t=cz l/\t.length<=l.length:=by
 unfold pJ eC;dsimp only
 refine me (X:=List Int) (C:=fun t=>sB t/\KT t/\cz t=cz l/\t.length<=l.length) (fun x=>x) (fun x=>x.length) (fun x=>sB x/\cz x=cz l/\x.length<=l.length) ?_ l ⟨h,rfl,OH _⟩
 rintro x ⟨h1,h2,h3⟩
 rcases List.eq_nil_or_concat x with rfl|⟨y,a,rfl⟩
 ·exact .inr ⟨.inl [],[],rfl,rfl,h1,(fun x hx=>by simp at hx),h2,h3⟩
 ·simp only[List.concat_eq_append] at *
  obtain⟨g1,g2⟩:=Im y a (by simp at h3;omega)
  have hp:decide (0<(((y++[a]).length:Nat):Int))=true:=by simp
  have hv:cz (y++[a])=cz y+4294967296^y.length * a:=by rw[wc,Cm]
  by_cases ha:a=0
  ·refine .inl ⟨y,⟨fun z hz=>h1 z (P6 _ hz), ?_,by simp at h3;omega⟩,by simp, ?_⟩
   ·rw[<-h2,hv,ha];simp
   ·have gs:fh (y++[a]) ((none:Option Int).getD 0) ((some (IntKind.i64.wrap (((y++[a]).length:Int) - 1))).getD (((y++[a]).length:Nat):Int))=some y:=by
     have e:IntKind.i64.wrap (((y++[a]).length:Int) - 1)=((y.length:Nat):Int):=by
      rw[OD,Ph,bn _ oM (by simp at h3;omega)];omega
     rw[e]
     simp only[PP,Pl,fh]
     rw[Qa ⟨PK _,by omega,by simp;omega⟩]
     simp
    subst ha
    simp only[hp,kn,OL,g1,OA,Qh,gs]
  ·refine .inr ⟨.inl (y++[a]),y++[a], ?_,rfl,h1, ?_,h2,h3⟩
   ·simp only[hp,kn,OL,g1,OA,ha,Qj,OO];rfl
   ·intro z hz;simp at hz;rw[<-hz];exact ha
theorem Ev (b:Bool) (l:List Int) (h:sB l) (hl:l.length<=1000):∃ t,tz b l=some ⟨b&&decide (cz l≠0),t⟩/\sB t/\KT t/\cz t=cz l/\t.length<=l.length:=by
 obtain⟨t,h1,h2,h3,h4,h5⟩:=IO l h hl
 refine⟨t, ?_,h2,h3,h4,h5⟩
 unfold tz uQ;dsimp only
 rw[h1]
 simp only[OA,bP]
 have:decide (0<((t.length:Nat):Int))=decide (cz l≠0):=by
  rw[<-h4]
  have:=FO h2 h3
  by_cases hz:cz t=0
  ·rw[hz];have:=this.1 hz;simp[this]
  ·have hn:t.length≠0:=fun e=>hz (this.2 e)
   simp only[ne_eq,hz,not_false_eq_true,Qh,OC];omega
 rw[this]
structure zJ (x:au) (v:Int) (n:Nat):Prop where
 neg:x.fneg=false
 ok:sB x.fabs
 nz:KT x.fabs
 val:cz x.fabs=v
 len:x.fabs.length<=n
theorem zJ.nn {x:au} {v:Int} {n:Nat} (h:zJ x v n):0<=v:=h.val▸HA h.ok
theorem Nk (n:Int) (h0:0<=n) (h1:n<4294967296):∃ x,tA n=some x/\zJ x n 1:=by
 unfold tA eD;dsimp only
 have hd:decide (n<0)=false:=by simp;omega
 have e1:IntKind.u64.wrap n=n:=Ex h0 oM
 have e2:IntKind.u32.wrap n=n:=by rw[Np];omega
 have e3:IntKind.u32.wrap (n/4294967296)=0:=by rw[Np];omega
 simp only[hd,OO,e1,e2,e3]
 have hok:sB [n,0]:=fun x hx=>by simp at hx;omega
 obtain⟨t,k1,k2,k3,k4,k5⟩:=Ev false [n,0] hok oS
 rw[ey (pe.2 ⟨by omega,by simp[IntKind.bits]⟩),k1]
 have hv:cz [n,0]=n:=by simp[cz]
 refine⟨_,rfl,by simp,k2,k3,by rw[k4,hv], ?_⟩
 show t.length<=1
 rcases O2 1 t.length with h|h
 ·exfalso
  have:=Ew k2 k3 (by intro e;rw[e] at h;simp at h)
  rw[k4,hv] at this
  obtain⟨k,hk⟩:∃ k,t.length - 1=1+k:=⟨t.length - 2,by omega⟩
  rw[hk,Int.pow_add] at this
  have h2:(0:Int)<4294967296^k:=Int.pow_pos oM
  omega
 ·exact h
theorem FM (a b:List Int) (ha:sB a) (hb:sB b) (hl:b.length<=a.length) (h0:a.length<=999) {f:List Int×Int×Int->Option ((List Int×Int×Int)⊕((List Int×Int×Int)⊕List Int))} {r:Option (List Int)}
  (hr:r=(bx f ([],0,0)).bind (bX fun s=>jV (tu (s.fst.length+[IntKind.u32.wrap s.snd.fst].length)) (some (s.fst++[IntKind.u32.wrap s.snd.fst]))))
  (hf:∀ (o:List Int) (c:Int) (i:Nat) (x:Int),a[i]?=some x->0<=c->c<=1->o.length=i->f (o,c,(i:Int))=some (.inl (o++[(c+x+(b[i]?).getD 0)%4294967296],(c+x+(b[i]?).getD 0)/4294967296,((i+1:Nat):Int))))
  (he:∀ o c,f (o,c,(a.length:Int))=some (.inr (.inl (o,c,(a.length:Int))))):
  ∃ o,r=some o/\sB o/\cz o=cz a+cz b/\o.length=a.length+1:=by
 rw[hr]
 have hcut:cz (b.take a.length)=cz b:=by rw[O8 hl]
 refine me (X:=List Int×Int) (C:=fun o=>sB o/\cz o=cz a+cz b/\o.length=a.length+1) (fun x=>(x.1,x.2,(x.1.length:Int))) (fun x=>a.length - x.1.length)
  (fun x=>x.1.length<=a.length/\sB x.1/\0<=x.2/\x.2<=1/\cz x.1+4294967296^x.1.length * x.2=cz (a.take x.1.length)+cz (b.take x.1.length)) ?_ ([],0) ⟨Pi _,L6,PK _,by omega,by simp[cz]⟩
 rintro⟨o,c⟩ ⟨h1,h2,h3,h4,h5⟩
 simp only at h1 h2 h3 h4 h5⊢
 rcases O2 o.length a.length with hi|hi
 ·obtain⟨x,hx⟩:=jw hi
  have kx:=ha.get hx
  obtain⟨y,hy,ky,hty⟩:∃ y,(b[o.length]?).getD 0=y/\(0<=y/\y<4294967296)/\cz (b.take (o.length+1))=cz (b.take o.length)+4294967296^o.length * y:=by
   cases hb':b[o.length]? with
   |none=>
    have:b.length<=o.length:=PE.1 hb'
    refine⟨0,rfl,by omega, ?_⟩
    rw[O8 this,O8 oM];simp
   |some y=>exact⟨y,rfl,hb.get hb',ww hb'⟩
  refine .inl ⟨(o++[(c+x+y)%4294967296],(c+x+y)/4294967296),⟨by simp;omega, ?_,by simp only;omega,by simp only;omega, ?_⟩,by simp;omega, ?_⟩
  ·exact h2.app fun z hz=>by simp at hz;omega
  ·simp only[OD,Ph]
   rw[IU (c:=c) (m:=x+y) oM,ww hx,hty,Qi,Qi]
   omega
  ·rw[hf o c o.length x hx h3 h4 rfl,hy]
   simp
 ·have hl:o.length=a.length:=by omega
  refine .inr ⟨_,o++[c],by rw[hl];exact he o c, ?_,h2.app fun z hz=>by simp at hz;omega, ?_,by simp;omega⟩
  ·have hw:IntKind.u32.wrap c=c:=by rw[Np];omega
   simp only[bX,hw]
   exact gL oT
  ·rw[wc,Cm,h5,hl,PH,hcut]
theorem N2 (a b:List Int) (ha:sB a) (hb:sB b) (h1:a.length<=999) (h2:b.length<=999):∃ o,uP a b=some o/\sB o/\cz o=cz a+cz b/\o.length=max a.length b.length+1:=by
 have key:∀ (a b:List Int) (i:Nat) (x c:Int) (o:List Int),sB a->sB b->a.length<=999->a[i]?=some x->0<=c->c<=1->o.length=i->
   (bif decide ((i:Int)<(a.length:Int)) then(dg a (i:Int)).bind fun e=>bif decide ((i:Int)<(b.length:Int)) then(dg b (i:Int)).bind fun e_1=>jV (tu (o.length+[IntKind.u32.wrap (IntKind.u64.wrap (IntKind.u64.wrap (c+IntKind.u64.wrap e)+IntKind.u64.wrap e_1))].length)) (jV (FP IntKind.u64 32) (some (Sum.inl (o++[IntKind.u32.wrap (IntKind.u64.wrap (IntKind.u64.wrap (c+IntKind.u64.wrap e)+IntKind.u64.wrap e_1))],IntKind.u64.wrap (IntKind.u64.wrap (c+IntKind.u64.wrap e)+IntKind.u64.wrap e_1)/4294967296,IntKind.i64.wrap ((i:Int)+1)))))
    else jV (tu (o.length+[IntKind.u32.wrap (IntKind.u64.wrap (c+IntKind.u64.wrap e))].length)) (jV (FP IntKind.u64 32) (some (Sum.inl (o++[IntKind.u32.wrap (IntKind.u64.wrap (c+IntKind.u64.wrap e))],IntKind.u64.wrap (c+IntKind.u64.wrap e)/4294967296,IntKind.i64.wrap ((i:Int)+1)))))
   else cS (some (Sum.inl (o,c,(i:Int)))):Option ((List Int×Int×Int)⊕((List Int×Int×Int)⊕List Int)))=some (.inl (o++[(c+x+(b[i]?).getD 0)%4294967296],(c+x+(b[i]?).getD 0)/4294967296,((i+1:Nat):Int))):=by
  intro a b i x c o ha hb hl hx h0 h1 ho
  have hi:=bI hx
  have kx:=ha.get hx
  have e1:IntKind.u64.wrap x=x:=Ex kx.1 oM
  have e2:IntKind.u64.wrap (c+x)=c+x:=Ex oM oM
  have hsh:FP IntKind.u64 32=some ():=pe.2 ⟨by omega,by simp[IntKind.bits]⟩
  simp only[bH hi,OL,av,hx,OA,e1,e2,cG i oM,ey hsh]
  cases hb':b[i]? with
  |none=>
   have:b.length<=i:=PE.1 hb'
   have hd:decide ((i:Int)<(b.length:Int))=false:=by simp;omega
   simp only[hd,OO,PP,Np,Int.add_zero]
   rw[gL oT]
  |some y=>
   have hib:=bI hb'
   have ky:=hb.get hb'
   have e3:IntKind.u64.wrap y=y:=Ex ky.1 oM
   have e4:IntKind.u64.wrap (c+x+y)=c+x+y:=Ex oM oM
   simp only[bH hib,OL,OA,e3,e4,Pl,Np]
   rw[gL oT]
 have hmk:∀ n:Nat,n<=999->NA 0 (IntKind.i64.wrap ((n:Int)+1))=some ():=fun n hn=>by
  rw[cG n oM];exact BH.2 ⟨PK _,by omega,by omega⟩
 unfold uP eC;dsimp only
 by_cases hlt:a.length<b.length
 ·have hd:decide ((a.length:Int)<(b.length:Int))=true:=by simpa using hlt
  simp only[hd,OL]
  rw[ey (hmk _ h2)]
  exact(FM b a hb ha oM h2 (by rfl) (by intro o c i x hx k1 k2 k3;exact key b a i x c o hb ha h2 hx k1 k2 k3) (by intro o c;simp only[ar,OO];rfl)).imp fun o h=>⟨h.1,h.2.1,by have:=h.2.2.1;omega,by have:=h.2.2.2;omega⟩
 ·have hd:decide ((a.length:Int)<(b.length:Int))=false:=by simpa using hlt
  simp only[hd,OO]
  rw[ey (hmk _ h1)]
  exact(FM a b ha hb oM h1 (by rfl) (by intro o c i x hx k1 k2 k3;exact key a b i x c o ha hb h1 hx k1 k2 k3) (by intro o c;simp only[ar,OO];rfl)).imp fun o h=>⟨h.1,h.2.1,h.2.2.1,by have:=h.2.2.2;omega⟩
theorem Nl {x y:au} {v w:Int} {n m:Nat} (hx:zJ x v n) (hy:zJ y w m) (hn:n<=900) (hm:m<=900):∃ z,dY x y=some z/\zJ z (v+w) (max n m+1):=by
 unfold dY eD;dsimp only
 obtain⟨o,k1,k2,k3,k4⟩:=N2 x.fabs y.fabs hx.ok hy.ok (by have:=hx.len;omega) (by have:=hy.len;omega)
 obtain⟨t,q1,q2,q3,q4,q5⟩:=Ev false o k2 (by have:=hx.len;have:=hy.len;omega)
 simp only[hx.neg,hy.neg,Qh,OL,k1,OA,q1]
 refine⟨_,rfl,by simp,q2,q3,by rw[q4,k3,hx.val,hy.val], ?_⟩
 show t.length<=_
 have:=hx.len;have:=hy.len;omega
theorem IP {e y:Int} (he:0<=e/\e<4294967296) (hy:0<=y/\y<4294967296):0<=e * y/\e * y<=18446744065119617025:=by
 refine⟨Int.mul_nonneg he.1 hy.1, ?_⟩
 have:=Int.mul_le_mul (show e<=4294967295 by omega) (show y<=4294967295 by omega) hy.1 oM
 omega
theorem Nm {i k:Nat} (h:i+k<=2000):IntKind.i64.wrap ((i:Int)+(k:Int))=((i+k:Nat):Int):=by rw[bn _ oM oM];simp
theorem L4 {x y:au} {v w:Int} {n m:Nat} (hx:zJ x v n) (hy:zJ y w m) (hn:n+m<=900):∃ z,dJ x y=some z/\zJ z (v * w) (n+m):=by
 have lx:=hx.len;have ly:=hy.len
 have ox:=hx.ok;have oy:=hy.ok
 have vx:=hx.val;have vy:=hy.val
 have nx:=hx.neg;have ny:=hy.neg
 have nX:∀ (b:Bool),(b=b):=fun _=>rfl
 obtain⟨xn,xa⟩:=x
 obtain⟨yn,ya⟩:=y
 simp only at lx ly ox oy vx vy nx ny
 subst nx;subst ny
 unfold dJ eD;dsimp only
 have e0:IntKind.i64.wrap ((xa.length:Int)+(ya.length:Int))=((xa.length+ya.length:Nat):Int):=Nm oM
 have hsh:FP IntKind.u64 32=some ():=pe.2 ⟨by omega,by simp[IntKind.bits]⟩
 simp only[e0,PO,Qh,OS]
 rw[ey (BH.2 ⟨by omega,PK _,by omega⟩)]
 refine me (X:=List Int×Nat) (C:=fun z:au=>zJ z (v * w) (n+m)) (fun s=>(s.1,(s.2:Int))) (fun s=>xa.length - s.2)
  (fun s=>s.2<=xa.length/\s.1.length=xa.length+ya.length/\sB s.1/\cz s.1=cz (xa.take s.2) * cz ya/\∀ j z,s.2+ya.length<=j->s.1[j]?=some z->z=0) ?_ (List.replicate (xa.length+ya.length) 0,0)
  ⟨Pi _,by simp,L7 _,by simp[FN,cz],fun j z _ hz=>by
   simp only[List.getElem?_replicate] at hz
   split at hz
   ·simpa using hz.symm
   ·cases hz⟩
 rintro⟨out,i⟩ ⟨h1,h2,h3,h4,h5⟩
 simp only at h1 h2 h3 h4 h5⊢
 rcases O2 i xa.length with hi|hi
 ·obtain⟨e,he⟩:=jw hi
  have ke:=ox.get he
  have e1:IntKind.u64.wrap e=e:=Ex ke.1 oM
  have inner:∃ r:(List Int×Int)⊕((List Int×Int)⊕au),_=some r/\∃ o,r= .inl (o,((i+1:Nat):Int))/\o.length=xa.length+ya.length/\sB o/\cz o=cz (xa.take (i+1)) * cz ya/\∀ j z,i+1+ya.length<=j->o[j]?=some z->z=0:=
   me (R:=(List Int×Int)⊕((List Int×Int)⊕au)) (X:=(List Int×Int)×Nat) (f:=fun s_1:List Int×Int×Int=>
     bif decide (s_1.snd.snd<(ya.length:Int)) then(dg ya s_1.snd.snd).bind fun e_1=>(dg s_1.fst (IntKind.i64.wrap ((i:Int)+s_1.snd.snd))).bind fun e_2=>s_1.fst[(IntKind.i64.wrap ((i:Int)+s_1.snd.snd)).toNat]?.bind fun e_3=>(dg s_1.fst (IntKind.i64.wrap ((i:Int)+s_1.snd.snd))).bind fun e_4=>s_1.fst[(IntKind.i64.wrap ((i:Int)+s_1.snd.snd)).toNat]?.bind fun e_5=>
      jV (FP IntKind.u64 32) (some (Sum.inl (s_1.fst.set (IntKind.i64.wrap ((i:Int)+s_1.snd.snd)).toNat (IntKind.u32.wrap (IntKind.u64.wrap (s_1.snd.fst+IntKind.u64.wrap (IntKind.u64.wrap e_3+IntKind.u64.wrap (IntKind.u64.wrap e * IntKind.u64.wrap e_1))))),IntKind.u64.wrap (s_1.snd.fst+IntKind.u64.wrap (IntKind.u64.wrap e_3+IntKind.u64.wrap (IntKind.u64.wrap e * IntKind.u64.wrap e_1)))/4294967296,IntKind.i64.wrap (s_1.snd.snd+1))))
     else cS (some (Sum.inl (s_1.fst,s_1.snd.fst,s_1.snd.snd))))
    (k:=bX fun s_1:List Int×Int×Int=>(dg s_1.fst (IntKind.i64.wrap ((i:Int)+(ya.length:Int)))).bind fun e=>s_1.fst[(IntKind.i64.wrap ((i:Int)+(ya.length:Int))).toNat]?.bind fun e=>some (Sum.inl (s_1.fst.set (IntKind.i64.wrap ((i:Int)+(ya.length:Int))).toNat (IntKind.u32.wrap s_1.snd.fst),IntKind.i64.wrap ((i:Int)+1))))
    (fun s=>(s.1.1,s.1.2,(s.2:Int))) (fun s=>ya.length - s.2)
    (fun s=>s.2<=ya.length/\s.1.1.length=xa.length+ya.length/\sB s.1.1/\(0<=s.1.2/\s.1.2<4294967296)/\cz s.1.1+4294967296^(i+s.2) * s.1.2=cz out+4294967296^i * (e * cz (ya.take s.2))/\∀ j z,i+ya.length<=j->s.1.1[j]?=some z->z=0) (by
     rintro⟨⟨o,c⟩,k⟩ ⟨q1,q2,q3,q4,q5,q6⟩
     simp only at q1 q2 q3 q4 q5 q6⊢
     rcases O2 k ya.length with hk|hk
     ·obtain⟨y,hy⟩:=jw hk
      have ky:=oy.get hy
      obtain⟨p,hp⟩:∃ p,o[i+k]?=some p:=jw oM
      have kp:=q3.get hp
      have km:=IP ke ky
      have e2:IntKind.u64.wrap y=y:=Ex ky.1 oM
      have e3:IntKind.u64.wrap p=p:=Ex kp.1 oM
      have e4:IntKind.u64.wrap (e * y)=e * y:=Ex km.1 oM
      have e5:IntKind.u64.wrap (p+e * y)=p+e * y:=Ex oM oM
      have e6:IntKind.u64.wrap (c+(p+e * y))=c+(p+e * y):=Ex oM oM
      have e7:IntKind.i64.wrap ((i:Int)+(k:Int))=((i+k:Nat):Int):=Nm oM
      refine .inl ⟨((o.set (i+k) ((c+(p+e * y))%4294967296),(c+(p+e * y))/4294967296),k+1),⟨hk,by simpa using q2,q3.set _ oM,by simp only;omega, ?_,fun j z hj hz=> ?_⟩,by simp only;omega, ?_⟩
      ·simp only
       rw[<-Qt,IR hp rfl,ww hy,Qi,<-Qu,q5,Qi,Qi,Int.pow_add,Qu]
       congr 2
       ac_rfl
      ·simp only at hz
       rw[List.getElem?_set_ne oM] at hz
       exact q6 j z hj hz
      ·simp only[bH hk,OL,av,hy,OA,e7,PO,hp,e1,e2,e3,e4,e5,e6,Np,cG k oM]
       rw[ey hsh]
     ·have hl:k=ya.length:=by omega
      subst hl
      obtain⟨p,hp⟩:∃ p,o[i+ya.length]?=some p:=jw oM
      have hz:=q6 _ p (OH _) hp
      subst hz
      have e7:IntKind.i64.wrap ((i:Int)+(ya.length:Int))=((i+ya.length:Nat):Int):=Nm oM
      have e8:IntKind.u32.wrap c=c:=by rw[Np];omega
      rw[PH] at q5
      refine .inr ⟨_,_,by simp only[ar,OO];rfl,by simp only[bX,e7,av,PO,hp,OA,e8,cG i oM];rfl,_,rfl,by simpa using q2,q3.set _ q4, ?_,fun j z hj hz=> ?_⟩
      ·rw[Cl _ hp,Int.sub_zero,q5,h4,ww he,Int.add_mul]
       congr 1
       ac_rfl
      ·rw[List.getElem?_set_ne oM] at hz
       exact q6 j z oM hz)
    ((out,0),0) ⟨Pi _,h2,h3,⟨PK _,by simp⟩,by simp[cz],h5⟩
  obtain⟨r,hr,o,rfl,g1,g2,g3,g4⟩:=inner
  refine .inl ⟨(o,i+1),⟨hi,g1,g2,g3,g4⟩,by simp only;omega, ?_⟩
  simp only[bH hi,OL,av,he,OA]
  exact hr
 ·have hl:i=xa.length:=by omega
  subst hl
  rw[PH] at h4
  obtain⟨t,k1,k2,k3,k4,k5⟩:=Ev false out h3 oM
  refine .inr ⟨_,_,by simp only[ar,OO];rfl,by simp only[bX,k1,OA];rfl, ?_⟩
  exact⟨by simp,k2,k3,by rw[k4,h4,vx,vy],by show t.length<=n+m;omega⟩
theorem L5 {x:au} {v:Int} {n:Nat} (hx:zJ x v n) (hn:n<=900) (hv:v≠0):∃ t,bW x=some ⟨true,t⟩/\sB t/\KT t/\cz t=v/\t.length<=n:=by
 unfold bW eD;dsimp only
 have lx:=hx.len
 obtain⟨t,k1,k2,k3,k4,k5⟩:=Ev (!x.fneg) x.fabs hx.ok oM
 refine⟨t, ?_,k2,k3,k4.trans hx.val,by omega⟩
 rw[k1,hx.neg,hx.val]
 simp[hv]
theorem Nn {x:au} {v:Int} {n:Nat} (hx:zJ x v n):ce x=some (if v=0 then 0 else 1):=by
 unfold ce eC;dsimp only
 have h:=FO hx.ok hx.nz
 rw[hx.val] at h
 simp only[hx.neg,OO]
 by_cases hv:v=0
 ·have hl:=h.1 hv
  rw[Qa hv,hl];rfl
 ·have hl:x.fabs.length≠0:=fun e=>hv (h.2 e)
  rw[P7 hv,Ql (show¬ ((x.fabs.length:Int)=0) by omega)];rfl
theorem N3 (b:Bool) (l:List Int) (h:sB l) (hz:KT l) (m:Int) (h0:0<=m) (h1:m<9223372036854775807):∃ r,fR ⟨b,l⟩ m=some (r,decide (cz l<=m)):=by
 unfold fR eC;dsimp only
 by_cases hl:2<l.length
 ·have hg:=IQ h hz hl
  have hd:decide (2<((l.length:Nat):Int))=true:=by simp;omega
  have hv:decide (cz l<=m)=false:=by simp;omega
  rw[hd,hv];exact⟨_,rfl⟩
 ·have hd:decide (2<((l.length:Nat):Int))=false:=by simp;omega
  rw[hd]
  simp only[OO]
  have hw:IntKind.u64.wrap m=m:=Ex h0 oM
  have hfin:∀ u:Int,u=cz l->∃ r,(bif decide (IntKind.u64.wrap m<u) then some ((0:Int),false) else bif b then some (IntKind.i64.wrap (0 - IntKind.i64.wrap u),true) else some (IntKind.i64.wrap u,true))=some (r,decide (cz l<=m)):=by
   intro u hu
   rw[hw,hu]
   by_cases hc:m<cz l
   ·rw[PG hc,show decide (cz l<=m)=false by simp;omega];exact⟨_,rfl⟩
   ·rw[Ql hc,show decide (cz l<=m)=true by simp;omega]
    cases b<;>exact⟨_,rfl⟩
  have s0:IntKind.i64.wrap (32 * 0)=0:=by rw[bn _ oM oM];rfl
  have s1:IntKind.i64.wrap (32 * (0+1))=32:=by rw[bn _ oM oM];rfl
  have s2:IntKind.i64.wrap (0+1)=1:=by rw[bn _ oM oM];rfl
  have s3:IntKind.i64.wrap (32 * 1)=32:=by rw[bn _ oM oM];rfl
  have s4:IntKind.i64.wrap (1+1)=2:=by rw[bn _ oM oM];rfl
  have hsa:FP IntKind.u64 0=some ():=pe.2 ⟨by omega,by simp[IntKind.bits]⟩
  have hsb:FP IntKind.u64 32=some ():=pe.2 ⟨by omega,by simp[IntKind.bits]⟩
  match l,h,hz,hl with
  |[],_,_,_=>
   rw[ct]
   have d0:decide ((0:Int)<(([]:List Int).length:Int))=false:=by simp
   simp only[d0,OO,cS,Pf,OA,bX]
   exact hfin 0 rfl
  |[x],h,_,_=>
   have kx:=h x oS
   have e1:IntKind.u64.wrap x=x:=Ex kx.1 oM
   rw[ct]
   have d1:decide ((0:Int)<(([x]:List Int).length:Int))=true:=by simp
   have d2:decide ((1:Int)<(([x]:List Int).length:Int))=false:=by simp
   have g1:dg [x] 0=some x:=rfl
   simp only[d1,OL,g1,OA,s0,s2,ey hsa,Int.toNat_zero,Int.pow_zero,Int.mul_one,e1,HB kx]
   rw[ct]
   simp only[d2,OO,cS,Pf,OA,bX]
   exact hfin x (by simp[cz])
  |[x,y],h,_,_=>
   have kx:=h x oS
   have ky:=h y oS
   have e1:IntKind.u64.wrap x=x:=Ex kx.1 oM
   have e2:IntKind.u64.wrap y=y:=Ex ky.1 oM
   have e3:IntKind.u64.wrap (y * 4294967296)=y * 4294967296:=Ex oM oM
   rw[ct]
   have d1:decide ((0:Int)<(([x,y]:List Int).length:Int))=true:=by simp
   have d2:decide ((1:Int)<(([x,y]:List Int).length:Int))=true:=by simp
   have d3:decide ((2:Int)<(([x,y]:List Int).length:Int))=false:=by simp
   have g1:dg [x,y] 0=some x:=rfl
   have g2:dg [x,y] 1=some y:=rfl
   simp only[d1,OL,g1,OA,s0,s2,ey hsa,Int.toNat_zero,Int.pow_zero,Int.mul_one,e1,HB kx]
   rw[ct]
   have p32:(2:Int)^(32:Int).toNat=4294967296:=by decide
   simp only[d2,OL,g2,OA,s3,s4,ey hsb,e2,p32,e3,L8 kx ky]
   rw[ct]
   simp only[d3,OO,cS,Pf,OA,bX]
   exact hfin _ (by simp[cz])
  |_::_::_::_,_,_,hl=>simp at hl
def pD (lo hi c:UInt8):Bool:=decide (lo.toNat<=c.toNat)&&decide (c.toNat<=hi.toNat)
theorem DE (l:List UInt8) (lo hi:UInt8) (hl:l.length<=1000000):sy l lo hi=some (l.all (pD lo hi)):=by
 unfold sy cA;dsimp only
 refine(nh l (pD lo hi) false (fun i e he=> ?_) ?_).trans ?_
 ·have hi':=bI he
  have h1:(decide ((e.toNat:Int)<(lo.toNat:Int))||decide ((hi.toNat:Int)<(e.toNat:Int)))= !pD lo hi e:=by
   unfold pD;rw[O1];simp
  simp only[bH hi',OL,av,he,OA,cX,cG i oM,h1]
  cases pD lo hi e<;>rfl
 ·simp only[ar,OO];rfl
 ·cases l.all (pD lo hi)<;>rfl
def ik (c:UInt8):Bool:=decide (48<=c.toNat)&&decide (c.toNat<=57)
def o8 (l:List UInt8):Bool:= !decide (l=[])&&l.all ik
theorem mJ {l:List UInt8} (h:o8 l=true):tW l:=fun c hc=>by
 simp only[o8,Oz,Pa] at h
 have:=h.2 c hc
 simpa[ik] using this
theorem AR {l:List UInt8} (h:o8 l=true):l≠[]:=by
 intro e;subst e;simp[o8] at h
theorem xP (l:List UInt8) (hl:l.length<=1000000):nD l=some (o8 l):=by
 unfold nD mQ;dsimp only
 rw[DE l _ _ hl]
 simp only[OA,bP]
 rfl
theorem AU (l:List UInt8) (hl:l.length<=1000000):gu l=some (o8 l):=by
 unfold gu mS;dsimp only
 unfold o8
 cases hd:decide (l=[]) with
 |true=>rfl
 |false=>
  simp only[OO,Po,OZ]
  refine(nh l ik false (fun i e he=> ?_) ?_).trans ?_
  ·have hi':=bI he
   have h1:(decide ((e.toNat:Int)<48)||decide (57<(e.toNat:Int)))= !ik e:=by
    unfold ik;rw[O1];simp
    omega
   simp only[bH hi',OL,av,he,OA,cX,cG i oM,h1]
   cases ik e<;>rfl
  ·simp only[ar,OO];rfl
  ·cases l.all ik<;>rfl
def L9:List UInt8->Int
 |[]=>0
 |c::_=>c.toNat
def yY (l:List UInt8):Bool:=o8 l&&(decide ((l.length:Int)=1)|| !decide (L9 l=48))
theorem CN {l:List UInt8} (h:l≠[]):∃ c,dg l 0=some c/\L9 l=(c.toNat:Int):=by
 cases l with
 |nil=>exact absurd rfl h
 |cons c l=>exact⟨c,rfl,rfl⟩
theorem HC (l:List UInt8) (hl:l.length<=1000000):ow l=some (yY l):=by
 unfold ow mR;dsimp only
 rw[xP l hl]
 unfold yY
 cases hd:o8 l with
 |false=>rfl
 |true=>
  obtain⟨c,hc,hh⟩:=CN (AR hd)
  simp only[OA,hc,cX,hh,bP,OZ]
theorem w8 {e:UInt8} (h:48<=e.toNat/\e.toNat<=57):IntKind.u8.wrap ((e.toNat:Int) - 48)=(e.toNat:Int) - 48:=by
 have:IntKind.u8.wrap ((e.toNat:Int) - 48)=((e.toNat:Int) - 48)%256:=by simp[IntKind.wrap,IntKind.bits,IntKind.signed]
 rw[this];omega
theorem CO (l:List UInt8) (c:UInt8):cM 0 (l++[c])=10 * cM 0 l+((c.toNat:Int) - 48):=by rw[Cn];rfl
theorem tW.take {l:List UInt8} (h:tW l) (n:Nat):tW (l.take n):=fun c hc=>h c (O0 hc)
theorem HD {l:List UInt8} (h:tW l) (n:Nat):cM 0 (l.take n)<=cM 0 l:=by
 have h1:=AP (l:=l.drop n) (n:=cM 0 (l.take n)) (fun c hc=>h c (Pg hc)) (AQ (h.take n) (PK _))
 rw[<-Cn,OU] at h1
 exact h1
theorem AV (l:List UInt8) (h:tW l) (hl:l.length<=1000):∃ r,ep l=some (r,decide (cM 0 l<=1000000000000000))/\(cM 0 l<=1000000000000000->r=cM 0 l):=by
 unfold ep mS;dsimp only
 have key:∃ c:Int×Bool,_=some c/\∃ r,c=(r,decide (cM 0 l<=1000000000000000))/\(cM 0 l<=1000000000000000->r=cM 0 l):=me (X:=Nat) (R:=Int×Bool) (C:=fun c=>∃ r,c=(r,decide (cM 0 l<=1000000000000000))/\(cM 0 l<=1000000000000000->r=cM 0 l))
  (f:=fun s:Int×Int=>bif decide (s.snd<(l.length:Int)) then(dg l s.snd).bind fun e=>bif decide (1000000000000000<IntKind.i64.wrap (IntKind.i64.wrap (10 * s.fst)+IntKind.i64.wrap (IntKind.u8.wrap ((e.toNat:Int) - 48)))) then cS (cS (some (0,false))) else some (Sum.inl (IntKind.i64.wrap (IntKind.i64.wrap (10 * s.fst)+IntKind.i64.wrap (IntKind.u8.wrap ((e.toNat:Int) - 48))),IntKind.i64.wrap (s.snd+1))) else cS (some (Sum.inl (s.fst,s.snd))))
  (k:=bX fun s:Int×Int=>some (s.fst,true))
  (fun i=>(cM 0 (l.take i),(i:Int))) (fun i=>l.length - i) (fun i=>i<=l.length/\cM 0 (l.take i)<=1000000000000000) (by
   rintro i ⟨h1,h2⟩
   have h0:=AQ (h.take i) (PK _)
   rcases O2 i l.length with hi|hi
   ·obtain⟨e,he⟩:=jw hi
    have ke:=h e (OE he)
    have hs:cM 0 (l.take (i+1))=10 * cM 0 (l.take i)+((e.toNat:Int) - 48):=by rw[ng he,CO]
    simp only[bH hi,OL,av,he,OA,w8 ke,cG i oM]
    rw[bn (10 * cM 0 (l.take i)) oM oM,bn ((e.toNat:Int) - 48) oM oM,bn _ oM oM,<-hs]
    by_cases hc:1000000000000000<cM 0 (l.take (i+1))
    ·have:=HD h (i+1)
     refine .inr ⟨_,_,by rw[PG hc];rfl,rfl,0, ?_,fun hh=>by omega⟩
     rw[Ql oM]
    ·exact .inl ⟨i+1,⟨hi,by omega⟩,by omega,by rw[Ql hc];rfl⟩
   ·have hl':i=l.length:=by omega
    subst hl'
    rw[PH] at h2⊢
    refine .inr ⟨_,_,by simp only[ar,OO];rfl,rfl,cM 0 l, ?_,fun _=>rfl⟩
    rw[PG h2]) 0 ⟨Pi _,by simp[cM]⟩
 obtain⟨c,hc,r,rfl,hr⟩:=key
 exact⟨r,hc,hr⟩
def KP (neg:Bool) (v:Int):Bool:=(!neg||decide (v≠0))&&decide (v<=1000000000000000)
theorem IX (b:Bool) (l:List Int) (p:Int) (h:sB l) (hz:KT l):∃ d e,el ⟨b,l⟩ p=some (d,e)/\decide (e=0)=decide (cz l<=1000000000000000):=by
 unfold el mQ;dsimp only
 obtain⟨r,hr⟩:=N3 b l h hz 1000000000000000 oM oM
 rw[hr]
 cases decide (cz l<=1000000000000000)<;>exact⟨_,_,rfl,rfl⟩
theorem DF {n:Nat} (h:n<=1000):Ia n=some ():=by unfold Ia;rw[Qa oM]
theorem Mn (neg:Bool) (a b:List UInt8) (h:tW (a++b)) (hl:(a++b).length<=50):∃ d e,o6 neg a b=some (d,e)/\decide (e=0)=KP neg (cM 0 (a++b)):=by
 unfold o6 mR;dsimp only
 obtain⟨x,hx,nx⟩:=Nk 0 oM oM
 obtain⟨t,ht,nt⟩:=Nk 10 oM oM
 have hlen:a.length+b.length<=1000:=by rw[OD] at hl;omega
 simp only[hx,OA,ey (DF hlen),ht]
 generalize a++b=l at h hl
 have key:∃ c:cD×Int,_=some c/\decide (c.2=0)=KP neg (cM 0 l):=me (X:=au×Nat) (R:=cD×Int) (C:=fun c=>decide (c.2=0)=KP neg (cM 0 l))
  (f:=fun s:au×Int=>bif decide (s.snd<(l.length:Int)) then(dJ s.fst t).bind fun x=>(dg l s.snd).bind fun e=>(tA (IntKind.i64.wrap (IntKind.u8.wrap ((e.toNat:Int) - 48)))).bind fun x_1=>(dY x x_1).bind fun x=>some (Sum.inl (x,IntKind.i64.wrap (s.snd+1))) else cS (some (Sum.inl (s.fst,s.snd))))
  (k:=bX fun s:au×Int=>bif neg then(ce s.fst).bind fun x=>bif decide (x=0) then some ({fUnits:=0,fPlaces:=0},10) else(bW s.fst).bind fun x=>(el x (b.length:Int)).bind fun x=>some (x.fst,x.snd) else(el s.fst (b.length:Int)).bind fun x=>some (x.fst,x.snd))
  (fun s=>(s.1,(s.2:Int))) (fun s=>l.length - s.2) (fun s=>s.2<=l.length/\zJ s.1 (cM 0 (l.take s.2)) (2 * s.2+1)) (by
   rintro⟨x,i⟩ ⟨h1,h2⟩
   simp only at h1 h2⊢
   rcases O2 i l.length with hi|hi
   ·obtain⟨e,he⟩:=jw hi
    have ke:=h e (OE he)
    obtain⟨y,hy,ny⟩:=L4 h2 nt oM
    obtain⟨d,hd,nd⟩:=Nk ((e.toNat:Int) - 48) oM oM
    obtain⟨z,hz,nz⟩:=Nl ny nd oM oM
    refine .inl ⟨(z,i+1),⟨hi, ?_⟩,by simp only;omega, ?_⟩
    ·have e1:cM 0 (l.take (i+1))=cM 0 (l.take i) * 10+((e.toNat:Int) - 48):=by rw[ng he,CO];omega
     rw[e1]
     exact⟨nz.neg,nz.ok,nz.nz,nz.val,by have:=nz.len;simp only;omega⟩
    ·simp only[bH hi,OL,av,he,OA,w8 ke,cG i oM,hy]
     rw[bn ((e.toNat:Int) - 48) oM oM,hd]
     simp only[OA,hz]
   ·have hl':i=l.length:=by omega
    subst hl'
    rw[PH] at h2
    have h0:=h2.nn
    have hend:∀ c:cD×Int,(bif neg then(ce x).bind fun x_1=>bif decide (x_1=0) then some (({fUnits:=0,fPlaces:=0}:cD),(10:Int)) else(bW x).bind fun x=>(el x (b.length:Int)).bind fun x=>some (x.fst,x.snd) else(el x (b.length:Int)).bind fun x=>some (x.fst,x.snd))=some c->True:=fun _ _=>trivial
    have hfin:∃ c:cD×Int,(bif neg then(ce x).bind fun x_1=>bif decide (x_1=0) then some (({fUnits:=0,fPlaces:=0}:cD),(10:Int)) else(bW x).bind fun x=>(el x (b.length:Int)).bind fun x=>some (x.fst,x.snd) else(el x (b.length:Int)).bind fun x=>some (x.fst,x.snd))=some c/\decide (c.2=0)=KP neg (cM 0 l):=by
     cases neg with
     |false=>
      obtain⟨d,e,k1,k2⟩:=IX x.fneg x.fabs b.length h2.ok h2.nz
      rw[h2.val] at k2
      exact⟨(d,e),by simp only[OO];rw[show el x (b.length:Int)=some (d,e) from k1];rfl,by simp only[KP,Po,Bool.true_or,OZ];exact k2⟩
     |true=>
      rw[Nn h2]
      simp only[OL,OA]
      by_cases hv:cM 0 l=0
      ·rw[Qa hv,hv];exact⟨_,rfl,rfl⟩
      ·rw[P7 hv]
       obtain⟨u,k1,k2,k3,k4,k5⟩:=L5 h2 oM hv
       obtain⟨d,e,q1,q2⟩:=IX true u b.length k2 k3
       rw[k4] at q2
       refine⟨(d,e), ?_, ?_⟩
       ·rw[k1];simp only[OA,q1];rfl
       ·simp only[KP,OS,Pj,hv,ne_eq,not_false_eq_true,Qh,OZ];exact q2
    obtain⟨c,k1,k2⟩:=hfin
    exact .inr ⟨.inl (x,(l.length:Int)),c,by simp only[ar,OO];rfl,k1,k2⟩) (x,0) ⟨Pi _,by simpa[cM] using nx⟩
 obtain⟨⟨d,e⟩,hc,hr⟩:=key
 exact⟨d,e,hc,hr⟩
def FR (s:List UInt8):Bool:=
 let c:=Lib.cut (Lib.trimPrefix s [45]) [46]
 decide (s.length<=40)&&(yY c.1&&(!c.2.2||(o8 c.2.1&&decide (c.2.1.length<=9)))&&KP (Lib.hasPrefix s [45]) (cM 0 (c.1++c.2.1)))
theorem GN (s sep:List UInt8):(Lib.cut s sep).1.length<=s.length/\(Lib.cut s sep).2.1.length<=s.length/\(Lib.cut s sep).1.length+(Lib.cut s sep).2.1.length<=s.length/\((Lib.cut s sep).2.2=false->(Lib.cut s sep).2.1=[]):=by
 unfold Lib.cut
 split
 ·refine⟨?_, ?_, ?_,fun h=>by cases h⟩
  ·simp only[OT];omega
  ·simp only[Pq];omega
  ·simp only[OT,Pq];omega
 ·exact⟨OH _,by simp,by simp,fun _=>rfl⟩
theorem ta (s p:List UInt8):(Lib.trimPrefix s p).length<=s.length:=by
 unfold Lib.trimPrefix
 split
 ·simp only[Pq];omega
 ·exact OH _
theorem FS (s:List UInt8) (hs':s.length<=1000):∃ d e,jX s=some (d,e)/\decide (e=0)=FR s:=by
 by_cases hs:s.length<=40
 case neg=>
  unfold jX rS;dsimp only
  have hp:=ta s [45]
  have hcut:em (Lib.trimPrefix s [45]) [46]=some (Lib.cut (Lib.trimPrefix s [45]) [46]):=by unfold em;rw[Qa oM]
  have hd:decide (40<((s.length:Nat):Int))=true:=by simp;omega
  simp only[eA,OA,hcut,hd]
  refine⟨_,_,rfl, ?_⟩
  unfold FR
  rw[Ql hs];rfl
 unfold jX rS;dsimp only
 have hp:=ta s [45]
 obtain⟨c1,c2,c3,c4⟩:=GN (Lib.trimPrefix s [45]) [46]
 have hcut:em (Lib.trimPrefix s [45]) [46]=some (Lib.cut (Lib.trimPrefix s [45]) [46]):=by unfold em;rw[Qa oM]
 have hd:decide (40<((s.length:Nat):Int))=false:=by simp;omega
 simp only[eA,OA,hcut,hd]
 unfold FR
 rw[PG hs,OZ]
 generalize Lib.cut (Lib.trimPrefix s [45]) [46]=c at c1 c2 c3 c4
 obtain⟨a,b,p⟩:=c
 simp only at c1 c2 c3 c4⊢
 rw[HC a oM,xP b oM]
 simp only[OA,cX,bP,Pj]
 cases ha:yY a with
 |false=>exact⟨_,_,rfl,rfl⟩
 |true=>
  simp only[OS,Pj,OZ]
  have da:tW a:=mJ (by unfold yY at ha;simp only[Oz] at ha;exact ha.1)
  have fin:tW b->∃ d e,(o6 (Lib.hasPrefix s [45]) a b).bind (fun x=>some (x.fst,x.snd))=some (d,e)/\decide (e=0)=KP (Lib.hasPrefix s [45]) (cM 0 (a++b)):=fun db=>by
   obtain⟨d,e,k1,k2⟩:=Mn (Lib.hasPrefix s [45]) a b (fun x hx=>(OV.1 hx).elim (da x) (db x)) (by rw[OD];omega)
   exact⟨d,e,by rw[k1];rfl,k2⟩
  cases p with
  |false=>
   have hb:=c4 rfl
   subst hb
   simp only[Qq,OO,Po,Bool.true_or,OZ]
   exact fin (fun x hx=>by simp at hx)
  |true=>
   simp only[OZ,OS,Pj]
   cases hb:o8 b with
   |false=>exact⟨_,_,rfl,rfl⟩
   |true=>
    by_cases h9:b.length<=9
    ·have e1:decide (9<((b.length:Nat):Int))=false:=by simp;omega
     simp only[e1,OS,Bool.or_false,OO,PG h9,Bool.and_true,OZ]
     exact fin (mJ hb)
    ·have e1:decide (9<((b.length:Nat):Int))=true:=by simp;omega
     simp only[e1,Bool.or_true,OL,Ql h9,Bool.and_false,Qq]
     exact⟨_,_,rfl,rfl⟩
theorem CP:∀ {l:List UInt8},tW l->(cM 0 l=0↔∀ c∈l,([48]:List UInt8).contains c=true)
 |[],_=>by simp[cM]
 |c::l,h=>by
  have hc:=h c (O9 ..)
  have hl:tW l:=fun x hx=>h x (Pk _ hx)
  have ih:=CP hl
  have hcc:([48]:List UInt8).contains c=true↔c.toNat=48:=by
   simp only[List.contains_cons,List.contains_nil,Bool.or_false,OI]
   constructor
   ·rintro rfl;rfl
   ·intro e;exact UInt8.toNat_inj.1 (by simpa using e)
  have hd:cM 0 (c::l)=cM ((c.toNat:Int) - 48) l:=by show cM (10 * 0+_) l=_;simp
  rw[hd]
  by_cases h48:c.toNat=48
  ·rw[h48]
   show cM 0 l=0↔_
   rw[ih]
   constructor
   ·intro k x hx
    rcases ON.1 hx with rfl|hx
    ·exact hcc.2 h48
    ·exact k x hx
   ·exact fun k x hx=>k x (Pk _ hx)
  ·constructor
   ·intro k
    have:=AP (l:=l) (n:=(c.toNat:Int) - 48) hl oM
    omega
   ·intro k
    exact absurd (hcc.1 (k c (O9 ..))) h48
theorem FT (s:List UInt8) (hs':s.length<=1000):∃ d e,eq s=some (d,e)/\decide (e=0)=FR s:=by
 by_cases hs:s.length<=40
 case neg=>
  unfold eq rT;dsimp only
  have hp:=ta s [45]
  have hcut:em (Lib.trimPrefix s [45]) [46]=some (Lib.cut (Lib.trimPrefix s [45]) [46]):=by unfold em;rw[Qa oM]
  have hd:decide (40<((s.length:Nat):Int))=true:=by simp;omega
  simp only[eA,OA,hcut,hd]
  refine⟨_,_,rfl, ?_⟩
  unfold FR
  rw[Ql hs];rfl
 unfold eq rT;dsimp only
 have hp:=ta s [45]
 obtain⟨c1,c2,c3,c4⟩:=GN (Lib.trimPrefix s [45]) [46]
 have hcut:em (Lib.trimPrefix s [45]) [46]=some (Lib.cut (Lib.trimPrefix s [45]) [46]):=by unfold em;rw[Qa oM]
 have hd:decide (40<((s.length:Nat):Int))=false:=by simp;omega
 simp only[eA,OA,hcut,hd,OO]
 unfold FR
 rw[PG hs,OZ]
 generalize Lib.cut (Lib.trimPrefix s [45]) [46]=c at c1 c2 c3 c4
 generalize Lib.hasPrefix s [45]=neg
 obtain⟨a,b,p⟩:=c
 simp only at c1 c2 c3 c4⊢
 rw[AU a oM,AU b oM,ey (DF (show a.length+b.length<=1000 by omega)),ey (DF (show a.length+b.length<=1000 by omega))]
 simp only[OA,cX]
 unfold yY
 cases ha:o8 a with
 |false=>exact⟨_,_,rfl,rfl⟩
 |true=>
  obtain⟨c,hc,hh⟩:=CN (AR ha)
  have la:a.length≠0:=fun e=>AR ha (OX.1 e)
  simp only[hc,hh,OA,bP,cX,OS,Pj,OZ]
  have h1:(decide (1<((a.length:Nat):Int))&&decide ((c.toNat:Int)=48))= !(decide (((a.length:Nat):Int)=1)|| !decide ((c.toNat:Int)=48)):=by
   rw[O1];simp;omega
  rw[h1]
  cases hw:(decide (((a.length:Nat):Int)=1)|| !decide ((c.toNat:Int)=48)) with
  |false=>exact⟨_,_,rfl,rfl⟩
  |true=>
   simp only[OS,Pj,OZ]
   have da:=mJ ha
   have fin:tW b->∃ d e,((kn neg ((ex (a++b) [48]).bind fun x=>some (decide (x=[])))).bind fun v=>bif v then some (({fUnits:=0,fPlaces:=0}:cD),(10:Int)) else(ep (a++b)).bind fun x_3=>bif !x_3.snd then some ({fUnits:=0,fPlaces:=0},1) else bif neg then some ({fUnits:=IntKind.i64.wrap (0 - x_3.fst),fPlaces:=(b.length:Int)},0) else some ({fUnits:=x_3.fst,fPlaces:=(b.length:Int)},0))=some (d,e)/\decide (e=0)=KP neg (cM 0 (a++b)):=fun db=>by
    have dl:tW (a++b):=fun x hx=>(OV.1 hx).elim (da x) (db x)
    have ll:(a++b).length<=40:=by rw[OD];omega
    generalize hab:a++b=l at dl ll⊢
    have ht:ex l [48]=some (Lib.trimS l [48]):=by unfold ex;rw[Qa ⟨by omega,by simp,by decide⟩]
    have hz:decide (Lib.trimS l [48]=[])=decide (cM 0 l=0):=by
     rw[O1,OC,OC,B8,CP dl]
    obtain⟨r,hr, -⟩:=AV l dl oM
    rw[ht,hr]
    simp only[OA,bP,hz]
    unfold KP
    cases neg with
    |false=>
     simp only[Qq,OO,Po,Bool.true_or,OZ]
     cases decide (cM 0 l<=1000000000000000)<;>exact⟨_,_,rfl,rfl⟩
    |true=>
     simp only[OZ,OS,Pj]
     by_cases hv:cM 0 l=0
     ·rw[PG hv,Ql (show¬ cM 0 l≠0 by simp[hv])];exact⟨_,_,rfl,rfl⟩
     ·rw[Ql hv,PG (show cM 0 l≠0 from hv)]
      cases decide (cM 0 l<=1000000000000000)<;>exact⟨_,_,rfl,rfl⟩
   cases p with
   |false=>
    have hb:=c4 rfl
    subst hb
    simp only[Qq,Po,Bool.true_or,OZ]
    exact fin (fun x hx=>by simp at hx)
   |true=>
    simp only[OZ,OS,Pj]
    cases hb:o8 b with
    |false=>exact⟨_,_,rfl,rfl⟩
    |true=>
     by_cases h9:b.length<=9
     ·have e1:decide (9<((b.length:Nat):Int))=false:=by simp;omega
      simp only[e1,OS,Bool.or_false,OO,PG h9,Bool.and_true,OZ]
      exact fin (mJ hb)
     ·have e1:decide (9<((b.length:Nat):Int))=true:=by simp;omega
      simp only[e1,Bool.or_true,OL,Ql h9,Bool.and_false,Qq]
      exact⟨_,_,rfl,rfl⟩
theorem GO:∀ (l:List UInt8) (a:Nat),tW l->∃ n:Nat,Lib.decFrom a l=some n/\(n:Int)=cM a l
 |[],a,_=>⟨a,rfl,rfl⟩
 |b::l,a,h=>by
  have hb:=h b (O9 ..)
  obtain⟨n,k1,k2⟩:=GO l (a * 10+(b.toNat - 48)) fun c hc=>h c (Pk _ hc)
  refine⟨n, ?_, ?_⟩
  ·unfold Lib.decFrom Lib.digitVal
   rw[Qa hb];exact k1
  ·rw[k2]
   show cM _ l=cM _ l
   congr 1;omega
theorem IY {l:List UInt8} (h1:l≠[]) (h2:l.length<=18) (h3:tW l):kP l=some (cM 0 l):=by
 unfold kP
 rw[Qa h2]
 cases l with
 |nil=>exact absurd rfl h1
 |cons b r=>
  have hb:=h3 b (O9 ..)
  obtain⟨n,hn,hv⟩:=GO (b::r) 0 h3
  have e1:(b==45)=false:=by rw[QA];rintro rfl;revert hb;decide
  have e2:(b==43)=false:=by rw[QA];rintro rfl;revert hb;decide
  have e3:Lib.decNat (b::r)=some n:=by unfold Lib.decNat;rw[P7 oS];exact hn
  simp only[Lib.atoi,e1,e2,e3,Pf]
  rw[<-show cM 0 (b::r)=cM ((0:Nat):Int) (b::r) from rfl] at hv
  simp[hv]
def CQ (y:Int):Bool:=decide (y%4=0)&&(!decide (y%100=0)||decide (y%400=0))
def DG (y m:Int):Int:=if m=2 then(if CQ y=true then 29 else 28) else if m=4\/m=6\/m=9\/m=11 then 30 else 31
def xQ (y m d:Int):Bool:=decide (1<=y)&&decide (y<=9999)&&decide (1<=m)&&decide (m<=12)&&decide (1<=d)&&decide (d<=DG y m)
theorem AY (a b c:Int):sA a b c=some (decide (a<b)||decide (c<a)):=by
 unfold sA cA;dsimp only
 simp only[cX,OA]
theorem EA (a b c:Int):ip a b c=some (decide (b<=a)&&decide (a<=c)):=by
 unfold ip eF;dsimp only
 simp only[bP,OA]
theorem Mo {y:Int} (h:0<=y):pO y=some (CQ y):=by
 unfold pO eE;dsimp only
 simp only[cX,bP,OA,Int.tmod_eq_emod_of_nonneg h];rfl
theorem Mp {y:Int} (h:0<=y):ir y=some (CQ y):=by
 unfold ir eF;dsimp only
 simp only[cX,bP,OA,Int.tmod_eq_emod_of_nonneg h]
 congr 1
 unfold CQ
 rw[O1];simp;omega
theorem IZ {m:Int} (h0:1<=m) (h1:m<=12):m=1\/m=2\/m=3\/m=4\/m=5\/m=6\/m=7\/m=8\/m=9\/m=10\/m=11\/m=12:=by omega
theorem L_ {y m:Int} (h:0<=y) (h0:1<=m) (h1:m<=12):pQ y m=some (DG y m):=by
 unfold pQ uU;dsimp only
 rw[Mo h]
 rw[bn (m - 1) oM oM]
 unfold DG
 cases hl:CQ y<;>rcases IZ h0 h1 with rfl|rfl|rfl|rfl|rfl|rfl|rfl|rfl|rfl|rfl|rfl|rfl<;>rfl
theorem Ma {y m:Int} (h:0<=y) (h0:1<=m) (h1:m<=12):iv y m=some (DG y m):=by
 unfold iv uY;dsimp only
 rw[Mp h]
 unfold DG
 cases hl:CQ y<;>rcases IZ h0 h1 with rfl|rfl|rfl|rfl|rfl|rfl|rfl|rfl|rfl|rfl|rfl|rfl<;>rfl
theorem zK {R:Type} {D:Int->Option Int} {m:Int} (hm:m<=12) (hD:∀ i,1<=i->i<=12->∃ d,D i=some d) (k:Int->R) (a:Int) {r:Option R}
  (hr:r=(bx (fun s:Int×Int=>bif decide (s.snd<m) then(D s.snd).bind fun x=>some (Sum.inl (IntKind.i64.wrap (s.fst+x),IntKind.i64.wrap (s.snd+1))) else cS (some (Sum.inl (s.fst,s.snd)))) (a,1)).bind (bX fun s=>some (k s.fst))):∃ z,r=some (k z):=by
 rw[hr]
 have:=me (R:=R) (X:=Int×Nat) (C:=fun c=>∃ z,c=k z) (f:=fun s:Int×Int=>bif decide (s.snd<m) then(D s.snd).bind fun x=>some (Sum.inl (IntKind.i64.wrap (s.fst+x),IntKind.i64.wrap (s.snd+1))) else cS (some (Sum.inl (s.fst,s.snd)))) (k:=bX fun s=>some (k s.fst))
  (fun s=>(s.1,(s.2:Int))) (fun s=>12 - s.2) (fun s=>1<=s.2) (by
   rintro⟨b,i⟩ hi
   simp only at hi⊢
   by_cases hc:(i:Int)<m
   ·obtain⟨d,hd⟩:=hD i oM oM
    refine .inl ⟨(IntKind.i64.wrap (b+d),i+1),by simp only;omega,by simp only;omega, ?_⟩
    simp only[PG hc,OL,hd,OA,cG i oM]
   ·exact .inr ⟨_,k b,by rw[Ql hc];rfl,rfl,b,rfl⟩) (a,1) oS
 obtain⟨c,hc,z,rfl⟩:=this
 exact⟨z,hc⟩
theorem KU {y m d:Int} (hy:0<=y):∃ n,nF y m d=some (n,xQ y m d):=by
 unfold nF uV;dsimp only
 simp only[AY,OA,cX]
 have hyB:(decide (y<1)||decide (9999<y)||(decide (m<1)||decide (12<m)))= !(decide (1<=y)&&decide (y<=9999)&&decide (1<=m)&&decide (m<=12)):=by
  rw[O1];simp;omega
 rw[hyB]
 unfold xQ
 cases hq:(decide (1<=y)&&decide (y<=9999)&&decide (1<=m)&&decide (m<=12)) with
 |false=>exact⟨_,rfl⟩
 |true=>
  simp only[Oz,OC] at hq
  obtain⟨⟨⟨q1,q2⟩,q3⟩,q4⟩:=hq
  rw[L_ hy q3 q4]
  simp only[OS,OA,Dl,OO,OZ]
  have hd:(decide (d<1)||decide (DG y m<d))= !(decide (1<=d)&&decide (d<=DG y m)):=by
   rw[O1];simp<;>omega
  rw[hd]
  cases(decide (1<=d)&&decide (d<=DG y m)) with
  |false=>exact⟨_,rfl⟩
  |true=>
   simp only[OS,OO]
   have hb:∃ b,pP y=some b:=by unfold pP eE;dsimp only;exact⟨_,rfl⟩
   obtain⟨b,hb⟩:=hb
   rw[hb]
   exact zK (k:=fun z=>(z,true)) q4 (fun i h0 h1=>⟨_,L_ hy h0 h1⟩) _ rfl
theorem KV {y m d:Int} (hy:0<=y\/y= -1):∃ n e,fm y m d=some (n,e)/\decide (e=0)=xQ y m d:=by
 unfold fm u_;dsimp only
 simp only[EA,OA,cX]
 unfold xQ
 have hyB:(!(decide (1<=y)&&decide (y<=9999))|| !(decide (1<=m)&&decide (m<=12)))= !(decide (1<=y)&&decide (y<=9999)&&decide (1<=m)&&decide (m<=12)):=by
  cases decide (1<=y)<;>cases decide (y<=9999)<;>cases decide (1<=m)<;>cases decide (m<=12)<;>rfl
 rw[hyB]
 cases hq:(decide (1<=y)&&decide (y<=9999)&&decide (1<=m)&&decide (m<=12)) with
 |false=>exact⟨_,_,rfl,rfl⟩
 |true=>
  simp only[Oz,OC] at hq
  obtain⟨⟨⟨q1,q2⟩,q3⟩,q4⟩:=hq
  rw[Ma oM q3 q4]
  simp only[OS,OA,Dl,OO,OZ]
  cases(decide (1<=d)&&decide (d<=DG y m)) with
  |false=>exact⟨_,_,rfl,rfl⟩
  |true=>
   simp only[OS,OO]
   have hb:∃ b,iu y=some b:=by unfold iu eF;dsimp only;exact⟨_,rfl⟩
   obtain⟨b,hb⟩:=hb
   have hd:∃ z,iU y m d=some z:=by
    unfold iU uZ;dsimp only
    rw[hb]
    exact zK (k:=fun z=>z) q4 (fun i h0 h1=>⟨_,Ma oM h0 h1⟩) _ rfl
   obtain⟨z,hz⟩:=hd
   rw[hz];exact⟨_,_,rfl,rfl⟩
def Cq (s:List UInt8):Bool:=decide (s.length=8)&&s.all ik&&xQ (cM 0 (s.take 4)) (cM 0 ((s.drop 4).take 2)) (cM 0 ((s.drop 4).drop 2))
theorem kq {l:List UInt8} (n:Nat):l.all ik=((l.take n).all ik&&(l.drop n).all ik):=by
 conv=>lhs;rw[<-OU n l]
 rw[List.all_append]
theorem jn {l:List UInt8} (h:l≠[]):o8 l=l.all ik:=by simp[o8,h]
theorem Nu (l:List UInt8) (n:Nat) (h:n<=l.length):fh l ((none:Option Int).getD 0) ((some (n:Int)).getD (l.length:Int))=some (l.take n):=by
 simp only[PP,Pl,fh]
 rw[Qa ⟨PK _,by omega,by omega⟩];simp
theorem I0 (l:List UInt8) (n:Nat) (h:n<=l.length):fh l ((some (n:Int)).getD 0) ((none:Option Int).getD (l.length:Int))=some (l.drop n):=by
 simp only[PP,Pl,fh]
 rw[Qa ⟨by omega,by omega,PK _⟩];simp
theorem KW (s:List UInt8) (hs:s.length<=1000):∃ n,qG s [4,2,2]=some (n,decide (s.length=8)&&s.all ik)/\((decide (s.length=8)&&s.all ik)=true->n=[cM 0 (s.take 4),cM 0 ((s.drop 4).take 2),cM 0 ((s.drop 4).drop 2)]):=by
 unfold qG eE;dsimp only
 have step:∀ (t:List UInt8) (o:List Int) (i n:Nat),t.length<=1000->o.length<=10->i<3->1<=n->n<=4->([4,2,2]:List Int)[i]?=some (n:Int)->
   (bif decide ((i:Int)<(([4,2,2]:List Int).length:Int)) then(dg ([4,2,2]:List Int) (i:Int)).bind fun e=>(Dl (decide (((t.length:Nat):Int)<e)) ((fh t ((none:Option Int).getD 0) ((some e).getD ((t.length:Nat):Int))).bind fun e=>(nD e).bind fun x=>some !x)).bind fun v=>bif v then cS (cS (some (([]:List Int),false))) else(fh t ((none:Option Int).getD 0) ((some e).getD ((t.length:Nat):Int))).bind fun e_1=>(kP e_1).bind fun x=>jV (tu (o.length+[x].length)) ((fh t ((some e).getD 0) ((none:Option Int).getD ((t.length:Nat):Int))).bind fun e=>some (Sum.inl (e,o++[x],IntKind.i64.wrap ((i:Int)+1)))) else cS (some (Sum.inl (t,o,(i:Int)))):Option ((List UInt8×List Int×Int)⊕((List UInt8×List Int×Int)⊕(List Int×Bool))))=
   if n<=t.length/\(t.take n).all ik=true then some (.inl (t.drop n,o++[cM 0 (t.take n)],((i+1:Nat):Int))) else some (.inr (.inr ([],false))):=by
  intro t o i n ht ho hi h1 h4 hn
  have hd:decide ((i:Int)<(([4,2,2]:List Int).length:Int))=true:=by simp;omega
  simp only[hd,OL,av,hn,OA]
  by_cases hlt:n<=t.length
  ·have e1:decide (((t.length:Nat):Int)<(n:Int))=false:=by simp;omega
   have hne:t.take n≠[]:=by intro e;have:=congrArg List.length e;rw[OT,Pr] at this;omega
   have htl:(t.take n).length=n:=by rw[OT];omega
   simp only[e1,Dl,OO,Nu t n hlt,I0 t n hlt,OA]
   rw[xP _ oM,jn hne]
   cases ha:(t.take n).all ik with
   |false=>rw[P7 oS];rfl
   |true=>
    rw[Qa ⟨hlt,rfl⟩]
    simp only[OA,OS,OO]
    rw[IY hne oM (mJ (by rw[jn hne];exact ha))]
    simp only[OA,cG i oM]
    exact gL oT
  ·have e1:decide (((t.length:Nat):Int)<(n:Int))=true:=by simp;omega
   rw[P7 oM,e1];rfl
 have fin:∀ (q:Option (List Int×Bool)) (b:Bool),b=(decide (s.length=8)&&s.all ik)->(∃ n,q=some (n,b)/\(b=true->n=[cM 0 (s.take 4),cM 0 ((s.drop 4).take 2),cM 0 ((s.drop 4).drop 2)]))->∃ n,q=some (n,decide (s.length=8)&&s.all ik)/\((decide (s.length=8)&&s.all ik)=true->n=[cM 0 (s.take 4),cM 0 ((s.drop 4).take 2),cM 0 ((s.drop 4).drop 2)]):=by
  rintro q b rfl h;exact h
 have s1:=step s [] 0 4 hs oS oM oM oM rfl
 rw[ct]
 rw[show((0:Nat):Int)=0 from rfl] at s1
 simp only
 rw[s1]
 by_cases c1:4<=s.length/\(s.take 4).all ik=true
 ·rw[Qa c1]
  simp only
  have s2:=step (s.drop 4) ([]++[cM 0 (s.take 4)]) 1 2 oT oS oM oM oM rfl
  rw[ct]
  simp only
  rw[show((0+1:Nat):Int)=((1:Nat):Int) from rfl,s2]
  by_cases c2:2<=(s.drop 4).length/\((s.drop 4).take 2).all ik=true
  ·rw[Qa c2]
   simp only
   have s3:=step ((s.drop 4).drop 2) ([]++[cM 0 (s.take 4)]++[cM 0 ((s.drop 4).take 2)]) 2 2 oT oS oM oM oM rfl
   rw[ct]
   simp only
   rw[show((1+1:Nat):Int)=((2:Nat):Int) from rfl,s3]
   by_cases c3:2<=((s.drop 4).drop 2).length/\(((s.drop 4).drop 2).take 2).all ik=true
   ·rw[Qa c3]
    simp only
    rw[ct]
    have hd:decide (((2+1:Nat):Int)<(([4,2,2]:List Int).length:Int))=false:=by decide
    simp only[hd,OO,cS,Pf,OA,bX]
    have l2:(s.drop 4).length=s.length - 4:=by simp
    have l3:((s.drop 4).drop 2).length=s.length - 4 - 2:=by rw[Pq,Pq]
    have l4:(((s.drop 4).drop 2).drop 2).length=s.length - 4 - 2 - 2:=by rw[Pq,Pq,Pq]
    refine fin _ (decide ((((s.drop 4).drop 2).drop 2)=[])) ?_ ⟨_,rfl,fun hh=> ?_⟩
    ·rw[kq (l:=s) 4,c1.2,kq (l:=s.drop 4) 2,c2.2,kq (l:=(s.drop 4).drop 2) 2,c3.2]
     by_cases he:(((s.drop 4).drop 2).drop 2)=[]
     ·have:=congrArg List.length he
      rw[l4,Pr] at this
      rw[he]
      simp;omega
     ·have hl:¬ s.length=8:=fun e=>he (OX.1 oM)
      rw[Ql he,Ql hl];rfl
    ·have he:=of_decide_eq_true hh
     have:=congrArg List.length he
     rw[l4,Pr] at this
     rw[O8 (l:=(s.drop 4).drop 2) oM];rfl
   ·rw[P7 c3]
    refine fin _ false ?_ ⟨_,rfl,fun hh=>by cases hh⟩
    symm
    rw[PN]
    intro hh
    simp only[Oz,OC] at hh
    refine c3 ⟨by simp;omega, ?_⟩
    have k1:=hh.2
    rw[kq (l:=s) 4,kq (l:=s.drop 4) 2,kq (l:=(s.drop 4).drop 2) 2] at k1
    simp only[Oz] at k1
    exact k1.2.2.1
  ·rw[P7 c2]
   refine fin _ false ?_ ⟨_,rfl,fun hh=>by cases hh⟩
   symm
   rw[PN]
   intro hh
   simp only[Oz,OC] at hh
   refine c2 ⟨by simp;omega, ?_⟩
   have k1:=hh.2
   rw[kq (l:=s) 4,kq (l:=s.drop 4) 2] at k1
   simp only[Oz] at k1
   exact k1.2.1
 ·rw[P7 c1]
  refine fin _ false ?_ ⟨_,rfl,fun hh=>by cases hh⟩
  symm
  rw[PN]
  intro hh
  simp only[Oz,OC] at hh
  refine c1 ⟨by omega, ?_⟩
  have k1:=hh.2
  rw[kq (l:=s) 4] at k1
  simp only[Oz] at k1
  exact k1.1
theorem HE (s:List UInt8) (hs:s.length<=1000):∃ d e,oB s 1 1=some (d,e)/\decide (e=0)=Cq s:=by
 obtain⟨n,hn,hv⟩:=KW s hs
 have hr:∃ z,oz s 1 1=some (z,Cq s):=by
  unfold oz uW;dsimp only
  rw[show decide ((1:Int)=1)=true from rfl]
  simp only[OL]
  rw[hn]
  unfold Cq
  cases hc:(decide (s.length=8)&&s.all ik) with
  |false=>exact⟨_,rfl⟩
  |true=>
   rw[hv hc]
   have da:tW s:=fun c hcm=>by
    simp only[Oz,Pa] at hc
    simpa[ik] using hc.2 c hcm
   obtain⟨z,hz⟩:=KU (m:=cM 0 ((s.drop 4).take 2)) (d:=cM 0 ((s.drop 4).drop 2)) (AQ (da.take 4) (PK _))
   refine⟨z, ?_⟩
   show(nF _ _ _).bind _=_
   rw[hz];rfl
 obtain⟨z,hz⟩:=hr
 have hf:pN 1=some true:=by
  unfold pN eE;dsimp only
  rw[AY];rfl
 unfold oB uX;dsimp only
 rw[hf,AY,hz]
 simp only[OA]
 cases Cq s<;>exact⟨_,_,rfl,rfl⟩
theorem AZ (l:List UInt8) (h1:l.length<=14):iq l=some (if o8 l=true then cM 0 l else -1):=by
 unfold iq eF;dsimp only
 rw[AU l oM]
 cases hd:o8 l with
 |false=>rfl
 |true=>
  have hb:∀ (l:List UInt8) (n:Int),tW l->0<=n->cM n l<(n+1) * 10^l.length:=by
   intro l
   induction l with
   |nil=>intro n _ _;simp[cM];omega
   |cons c l ih=>
    intro n h h0
    have hc:=h c (O9 ..)
    have:=ih (10 * n+((c.toNat:Int) - 48)) (fun x hx=>h x (Pk _ hx)) oM
    refine Int.lt_of_lt_of_le this ?_
    rw[OW,QE,Int.mul_comm (10^l.length) 10,<-Int.mul_assoc]
    exact Int.mul_le_mul_of_nonneg_right oM (Int.pow_nonneg oM)
  have hlt:=hb l 0 (mJ hd) (PK _)
  have hp:(10:Int)^l.length<=10^14:=by
   have:=Nat.pow_le_pow_right (show 0<10 by omega) h1
   exact_mod_cast this
  obtain⟨r,hr,hv⟩:=AV l (mJ hd) oM
  have hv:=hv oM
  subst hv
  simp only[OA,OS,OO,hr,PR]
theorem HF (s:List UInt8) (hs:s.length<=1000):∃ d e,gU s 1 1=some (d,e)/\decide (e=0)=Cq s:=by
 unfold gU va;dsimp only
 simp only[EA,OA]
 have a1:(decide ((1:Int)<=1)&&decide ((1:Int)<=5))=true:=rfl
 have a2:(decide ((1:Int)<=1)&&decide ((1:Int)<=9900))=true:=rfl
 have a3:decide ((1:Int)=1)=true:=rfl
 have a4:decide ((1:Int)=2)=false:=rfl
 have a5:decide ((1:Int)=3)=false:=rfl
 have a6:decide ((1:Int)=4)=false:=rfl
 have a7:decide ((1:Int)=5)=false:=rfl
 simp only[a1,a2,a3,a4,a5,a6,a7,OS,OO,kn,OL,OA]
 have fin:∀ y m d:Int,(0<=y\/y= -1)->xQ y m d=Cq s->∃ z e,((fm y m d).bind fun x=>bif !decide (x.snd=0) then some ((0:Int),(10:Int)) else some (x.fst,0))=some (z,e)/\decide (e=0)=Cq s:=by
  intro y m d hy hq
  obtain⟨n,e,k1,k2⟩:=KV (m:=m) (d:=d) hy
  rw[k1,<-hq,<-k2]
  simp only[OA]
  cases decide (e=0)<;>exact⟨_,_,rfl,rfl⟩
 by_cases h8:s.length=8
 ·have d8:decide (((s.length:Nat):Int)=8)=true:=by simp;omega
  simp only[d8,OL]
  have t1:fh s ((none:Option Int).getD 0) ((some (4:Int)).getD ((s.length:Nat):Int))=some (s.take 4):=Nu s 4 oM
  have t2:fh s ((some (4:Int)).getD 0) ((some (6:Int)).getD ((s.length:Nat):Int))=some ((s.drop 4).take 2):=by
   simp only[Pl,fh]
   rw[Qa ⟨by omega,by omega,by omega⟩]
   simp[List.take_drop]
  have t3:fh s ((some (6:Int)).getD 0) ((none:Option Int).getD ((s.length:Nat):Int))=some ((s.drop 4).drop 2):=by
   rw[PX];exact I0 s 6 oM
  simp only[t1,t2,t3,OA]
  have l1:(s.take 4).length=4:=by simp;omega
  have l2:((s.drop 4).take 2).length=2:=by simp;omega
  have l3:((s.drop 4).drop 2).length=2:=by simp;omega
  have n1:s.take 4≠[]:=fun e=>by rw[e] at l1;simp at l1
  have n2:(s.drop 4).take 2≠[]:=fun e=>by rw[e] at l2;simp at l2
  have n3:(s.drop 4).drop 2≠[]:=fun e=>by rw[e] at l3;simp at l3
  rw[AZ _ oM,AZ _ oM,AZ _ oM,jn n1,jn n2,jn n3]
  simp only[OA]
  have hall:s.all ik=((s.take 4).all ik&&(((s.drop 4).take 2).all ik&&((s.drop 4).drop 2).all ik)):=by rw[kq (l:=s) 4,kq (l:=s.drop 4) 2]
  refine fin _ _ _ ?_ ?_
  ·split
   ·rename_i h
    exact .inl (AQ (mJ (by rw[jn n1];exact h)) (PK _))
   ·exact .inr rfl
  ·unfold Cq
   rw[hall,PG h8,OZ]
   cases h1:(s.take 4).all ik with
   |false=>simp[xQ]
   |true=>
    cases h2:((s.drop 4).take 2).all ik with
    |false=>simp[xQ]
    |true=>
     cases h3:((s.drop 4).drop 2).all ik with
     |false=>simp[xQ]
     |true=>simp
 ·have d8:decide (((s.length:Nat):Int)=8)=false:=by simp;omega
  simp only[d8,OO,OA]
  refine fin (-1) (-1) (-1) (.inr rfl) ?_
  unfold Cq
  rw[Ql h8];rfl
def pB {α:Type} (st:Option α->α->Int):Option α->List α->Int
 |_,[]=>0
 |p,x::l=>if st p x=0 then pB st (some x) l else st p x
def oi {α:Type} (l:List α) (i:Nat):Option α:=if i=0 then none else l[i - 1]?
theorem kR {α A:Type} (l:List α) (st:Option α->α->Int) (ret:Int->A) {f:Int->Option (Int⊕(Int⊕A))} {K:Int->Option A}
  (hb:∀ (i:Nat) (e:α),l[i]?=some e->f (i:Int)=if st (oi l i) e=0 then some (.inl ((i+1:Nat):Int)) else some (.inr (.inr (ret (st (oi l i) e))))) (he:f (l.length:Int)=some (.inr (.inl (l.length:Int)))):
  (bx f 0).bind (bX K)=if pB st none l=0 then K (l.length:Int) else some (ret (pB st none l)):=by
 refine yS (X:=Nat) (fun i=>((i:Nat):Int)) (fun i=>l.length - i) (fun i=>i<=l.length/\pB st none l=pB st (oi l i) (l.drop i)) ?_ 0 ⟨Pi _,rfl⟩
 rintro i ⟨h1,h2⟩
 rcases O2 i l.length with hi|hi
 ·obtain⟨e,hx⟩:=jw hi
  have hd:l.drop i=e::l.drop (i+1):=by
   rw[PT hi]
   rw[OJ hi] at hx
   simp only[Oy] at hx;rw[hx]
  rw[hd] at h2
  simp only[pB] at h2
  by_cases hs:st (oi l i) e=0
  ·rw[Qa hs] at h2
   refine .inl ⟨i+1,⟨hi, ?_⟩,by omega,by rw[hb i e hx,Qa hs]⟩
   rw[h2]
   have:oi l (i+1)=some e:=by unfold oi;rw[P7 oM];simpa using hx
   rw[this]
  ·rw[P7 hs] at h2
   refine .inr ⟨_,by rw[hb i e hx,P7 hs], ?_⟩
   rw[h2,P7 hs];rfl
 ·have hl:i=l.length:=by omega
  subst hl
  rw[List.drop_length] at h2
  have h2:pB st none l=0:=h2
  exact .inr ⟨_,he,by rw[h2,Qa rfl];rfl⟩
theorem yV {α:Type} {st:Option α->α->Int}:∀ {l:List α} {p:Option α},pB st p l=0->∀ x∈l,∃ q,st q x=0
 |[],_,_,x,hx=>by cases hx
 |y::l,p,h,x,hx=>by
  unfold pB at h
  by_cases hs:st p y=0
  ·rw[Qa hs] at h
   rcases ON.1 hx with rfl|hx
   ·exact⟨p,hs⟩
   ·exact yV h x hx
  ·rw[P7 hs] at h;exact absurd h hs
def kS (c:UInt8):Bool:=(decide (65<=c.toNat)&&decide (c.toNat<=90))||(decide (97<=c.toNat)&&decide (c.toNat<=122))||decide (c.toNat=32)
def rL (k:Int) (s:List UInt8):Bool:=if k=4 then FR s else if k=5 then Cq s else if k=2 then s.all kS else if k=3 then s.all ik else true
def Kq (d:aE) (s:List UInt8):Bool:=decide (1<=s.length/\s.length<=20)&&decide (d.fMin<=(s.length:Int)/\(s.length:Int)<=d.fMax)&&rL d.fType s&&s.all (pD 33 126)
def Ot (a b:List UInt8):Bool:=Op.bytesLess a b||decide (a=b)
def Cb (p:Option (List UInt8)) (s:List UInt8):Bool:=match p with|some q=>Ot s q|none=>false
def wa (d:aE) (p:Option (List UInt8)) (s:List UInt8):Int:=if Kq d s=true then(if Cb p s=true then 8 else 0) else 3
def wV (d:aE):Int:=
 if¬ (1<=d.fType/\d.fType<=5) then 4
 else if¬ (1<=d.fMin/\d.fMin<=d.fMax)\/1000<d.fMax then 1
 else if d.fType=5/\(8<d.fMin\/d.fMax<8) then 3
 else if 50<d.fCodes.length then 2
 else pB (wa d) none d.fCodes
def Am (e:aq):Int:=
 if¬ (1<=e.fMost/\e.fMost<=20) then 1
 else if e.fParts=[] then 9
 else if 20<e.fParts.length then 2
 else pB (fun _ p=>wV p) none e.fParts
def FC (d:Df):Int:=if 50<d.fElements.length then 2 else pB (fun _ e=>Am e) none d.fElements
def Cc (p:Option Df) (d:Df):Int:=if yQ d.fTag=false then 5 else if Cb (p.map (·.fTag)) d.fTag=true then 8 else FC d
def nW (l:List Df):Int:=if 100<l.length then 2 else pB Cc none l
theorem zH (a b c:Int):iw a b c=some (decide (b<=a)&&decide (a<=c)):=by
 unfold iw mW;dsimp only
 simp only[bP,OA]
theorem Kr (s:List UInt8) (k:Int) (hs:s.length<=1000):js s k=some (if k=1 then s.all (pD 32 126) else rL k s):=by
 unfold js mW;dsimp only
 unfold rL
 by_cases k4:k=4
 ·subst k4
  obtain⟨d,e,h1,h2⟩:=FT s oM
  rw[h1];simp[h2]
 by_cases k5:k=5
 ·subst k5
  obtain⟨d,e,h1,h2⟩:=HF s oM
  rw[h1];simp[h2]
 rw[Ql k4,Ql k5]
 simp only[OO,k4,k5,Pp]
 have key:=nh s (fun c=>(!decide (k=1)||pD 32 126 c)&&(!decide (k=2)||kS c)&&(!decide (k=3)||ik c)) false (f:=fun i:Int=>bif decide (i<(s.length:Int)) then(dg s i).bind fun e=>(kn (decide (k=1)) ((Dl (decide ((e.toNat:Int)<32)) (some (decide (126<(e.toNat:Int))))).bind fun v=>some v)).bind fun v=>bif v then cS (cS (some false)) else(kn (decide (k=2)) ((kn (decide (65<=(e.toNat:Int))) (some (decide ((e.toNat:Int)<=90)))).bind fun v=>(Dl v ((kn (decide (97<=(e.toNat:Int))) (some (decide ((e.toNat:Int)<=122)))).bind fun v=>some v)).bind fun v=>(Dl v (some (decide ((e.toNat:Int)=32)))).bind fun v=>some !v)).bind fun v=>bif v then cS (cS (some false)) else(kn (decide (k=3)) ((Dl (decide ((e.toNat:Int)<48)) (some (decide (57<(e.toNat:Int))))).bind fun v=>some v)).bind fun v=>bif v then cS (cS (some false)) else some (Sum.inl (IntKind.i64.wrap (i+1))) else cS (some (Sum.inl i))) (K:=fun _=>some true) (fun i e he=>by
   have hi:=bI he
   have a1:(decide ((e.toNat:Int)<32)||decide (126<(e.toNat:Int)))= !pD 32 126 e:=by
    unfold pD;rw[O1];simp<;>omega
   have a2:(decide (65<=(e.toNat:Int))&&decide ((e.toNat:Int)<=90)||decide (97<=(e.toNat:Int))&&decide ((e.toNat:Int)<=122)||decide ((e.toNat:Int)=32))=kS e:=by
    unfold kS;rw[O1];simp<;>omega
   have a3:(decide ((e.toNat:Int)<48)||decide (57<(e.toNat:Int)))= !ik e:=by
    unfold ik;rw[O1];simp<;>omega
   simp only[bH hi,OL,av,he,OA,cX,bP,cG i oM,a1,a2,a3]
   cases decide (k=1)<;>cases decide (k=2)<;>cases decide (k=3)<;>cases pD 32 126 e<;>cases kS e<;>cases ik e<;>rfl) (by simp only[ar,OO];rfl)
 rw[key]
 by_cases k1:k=1
 ·subst k1
  have:s.all (fun c=>(!decide ((1:Int)=1)||pD 32 126 c)&&(!decide ((1:Int)=2)||kS c)&&(!decide ((1:Int)=3)||ik c))=s.all (pD 32 126):=by
   congr 1;funext c;cases pD 32 126 c<;>rfl
  rw[this,Qa rfl]
  cases s.all (pD 32 126)<;>rfl
 ·by_cases k2:k=2
  ·subst k2
   have:s.all (fun c=>(!decide ((2:Int)=1)||pD 32 126 c)&&(!decide ((2:Int)=2)||kS c)&&(!decide ((2:Int)=3)||ik c))=s.all kS:=by
    congr 1;funext c;cases kS c<;>rfl
   rw[this,P7 k1,Qa rfl]
   cases s.all kS<;>rfl
  ·by_cases k3:k=3
   ·subst k3
    have:s.all (fun c=>(!decide ((3:Int)=1)||pD 32 126 c)&&(!decide ((3:Int)=2)||kS c)&&(!decide ((3:Int)=3)||ik c))=s.all ik:=by
     first|rfl|(congr 1;funext c;cases ik c<;>rfl)
    rw[this,P7 k1,P7 k2,Qa rfl]
    cases s.all ik<;>rfl
   ·have:s.all (fun c=>(!decide (k=1)||pD 32 126 c)&&(!decide (k=2)||kS c)&&(!decide (k=3)||ik c))=true:=by
     rw[Pa];intro c _;simp[k1,k2,k3]
    rw[this,P7 k1,P7 k2,P7 k3];rfl
theorem Ks {s:List UInt8} (h:s.all (pD 33 126)=true):s.all (pD 32 126)=true:=by
 rw[Pa] at h⊢
 intro c hc
 have:=h c hc
 simp only[pD,Oz,OC] at this⊢
 exact⟨PA oD this.1,this.2⟩
theorem FD {α:Type} {l:List α} {i:Nat} {e:α} (he:l[i]?=some e) (h0:0<i):∃ p,l[i - 1]?=some p/\oi l i=some p:=by
 obtain⟨p,hp⟩:=jw (l:=l) (i:=i - 1) (by have:=bI he;omega)
 exact⟨p,hp,by unfold oi;rw[P7 oM,hp]⟩
theorem FE {l:List (List UInt8)} {i:Nat} {e:List UInt8} (he:l[i]?=some e) (hl:l.length<=1000):
  kn (decide (0<(i:Int))) ((dg l (IntKind.i64.wrap ((i:Int) - 1))).bind fun e_1=>some (Op.bytesLess e e_1||decide (e=e_1)))=some (Cb (oi l i) e):=by
 by_cases h0:0<i
 ·obtain⟨p,hp,hq⟩:=FD he h0
  have hi:=bI he
  have hw:IntKind.i64.wrap ((i:Int) - 1)=((i - 1:Nat):Int):=by rw[bn _ oM oM];omega
  have hd:decide (0<(i:Int))=true:=by simpa using h0
  rw[hw,av,hp,hq,hd];rfl
 ·have hi:i=0:=by omega
  subst hi;rfl
theorem M_ (d:aE) {i:Nat} {s:List UInt8} (hs:d.fCodes[i]?=some s) (hl:d.fCodes.length<=1000):fW d (i:Int)=some (wa d (oi d.fCodes i) s):=by
 unfold fW vl;dsimp only
 rw[av,hs]
 simp only[OA,zH,cX]
 unfold wa Kq
 by_cases c1:1<=s.length/\s.length<=20
 ·by_cases c2:d.fMin<=(s.length:Int)/\(s.length:Int)<=d.fMax
  ·have b1:(!(decide ((1:Int)<=((s.length:Nat):Int))&&decide (((s.length:Nat):Int)<=20))|| !(decide (d.fMin<=((s.length:Nat):Int))&&decide (((s.length:Nat):Int)<=d.fMax)))=false:=by simp;omega
   rw[b1,Kr s d.fType oM,PG c1,PG c2]
   simp only[Dl,OO,OA,OZ]
   have fin:(bx (fun i:Int=>bif decide (i<(s.length:Int)) then(dg s i).bind fun e_1=>(Dl (decide ((e_1.toNat:Int)<33)) ((dg s i).bind fun e=>some (decide (126<(e.toNat:Int))))).bind fun v=>bif v then cS (cS (some (3:Int))) else some (Sum.inl (IntKind.i64.wrap (i+1))) else cS (some (Sum.inl i))) 0).bind (bX fun _=>(kn (decide (0<(i:Int))) ((dg d.fCodes (IntKind.i64.wrap ((i:Int) - 1))).bind fun e_1=>some (Op.bytesLess s e_1||decide (s=e_1)))).bind fun v=>bif v then some 8 else some 0)=some (if s.all (pD 33 126)=true then(if Cb (oi d.fCodes i) s=true then 8 else 0) else 3):=by
    rw[FE hs hl]
    refine(nh s (pD 33 126) (3:Int) (fun i e he=> ?_) ?_).trans ?_
    ·have hi':=bI he
     have h1:(decide ((e.toNat:Int)<33)||decide (126<(e.toNat:Int)))= !pD 33 126 e:=by
      unfold pD;rw[O1];simp<;>omega
     simp only[bH hi',OL,av,he,OA,cX,cG i oM,h1]
     cases pD 33 126 e<;>rfl
    ·simp only[ar,OO];rfl
    ·cases s.all (pD 33 126)<;>cases Cb (oi d.fCodes i) s<;>rfl
   by_cases k1:d.fType=1
   ·rw[Qa k1]
    have ht:rL d.fType s=true:=by unfold rL;rw[k1];rfl
    rw[ht,OZ]
    cases ha:s.all (pD 32 126) with
    |true=>simp only[OS,OO];exact fin
    |false=>
     have:s.all (pD 33 126)=false:=by
      cases h:s.all (pD 33 126) with
      |false=>rfl
      |true=>rw[Ks h] at ha;cases ha
     rw[this];rfl
   ·rw[P7 k1]
    cases rL d.fType s with
    |false=>rfl
    |true=>simp only[OS,OO,OZ];exact fin
  ·have b1:(!(decide ((1:Int)<=((s.length:Nat):Int))&&decide (((s.length:Nat):Int)<=20))|| !(decide (d.fMin<=((s.length:Nat):Int))&&decide (((s.length:Nat):Int)<=d.fMax)))=true:=by
    simp only[O3,Pz,PC,Pb];omega
   rw[b1,Ql c2];simp[Dl]
 ·have b1:(!(decide ((1:Int)<=((s.length:Nat):Int))&&decide (((s.length:Nat):Int)<=20))|| !(decide (d.fMin<=((s.length:Nat):Int))&&decide (((s.length:Nat):Int)<=d.fMax)))=true:=by
   simp only[O3,Pz,PC,Pb];omega
  rw[b1,Ql c1];simp[Dl]
theorem Na (d:aE):fY d=some (wV d):=by
 unfold fY vm;dsimp only
 simp only[zH,OA,cX,bP]
 unfold wV
 by_cases c1:1<=d.fType/\d.fType<=5
 ·rw[show(decide (1<=d.fType)&&decide (d.fType<=5))=true by simp[c1],P7 (not_not_intro c1)]
  simp only[OS,OO]
  by_cases c2:¬ (1<=d.fMin/\d.fMin<=d.fMax)\/1000<d.fMax
  ·rw[Qa c2,show(!(decide (1<=d.fMin)&&decide (d.fMin<=d.fMax))||decide (1000<d.fMax))=true by simp only[O3,Pz,PC,Pb,OC];omega];rfl
  ·rw[P7 c2,show(!(decide (1<=d.fMin)&&decide (d.fMin<=d.fMax))||decide (1000<d.fMax))=false by simp only[PQ,Bool.not_eq_false',Oz,Pb,OC];omega]
   simp only[OO]
   by_cases c3:d.fType=5/\(8<d.fMin\/d.fMax<8)
   ·rw[Qa c3,show(decide (d.fType=5)&&(decide (8<d.fMin)||decide (d.fMax<8)))=true by simp[c3.1];exact c3.2];rfl
   ·rw[P7 c3,show(decide (d.fType=5)&&(decide (8<d.fMin)||decide (d.fMax<8)))=false by simp only[PC,Pb,PQ];omega]
    simp only[OO]
    by_cases c4:50<d.fCodes.length
    ·rw[Qa c4,show decide (50<((d.fCodes.length:Nat):Int))=true by simp;omega];rfl
    ·rw[P7 c4,show decide (50<((d.fCodes.length:Nat):Int))=false by simp;omega]
     simp only[OO]
     refine(kR d.fCodes (wa d) (fun n=>n) (fun i e he=> ?_) ?_).trans ?_
     ·have hi':=bI he
      simp only[bH hi',OL,M_ d he oM,OA,cG i oM]
      by_cases hz:wa d (oi d.fCodes i) e=0
      ·rw[Qa hz,PG hz];rfl
      ·rw[P7 hz,Ql hz];rfl
     ·simp only[ar,OO];rfl
     ·split
      ·rename_i h;rw[h]
      ·rfl
 ·rw[show(decide (1<=d.fType)&&decide (d.fType<=5))=false by simp only[PC,Pb];omega,Qa c1];rfl
theorem NY (d:Df):gA d=some (FC d):=by
 unfold gA vn;dsimp only
 unfold FC
 by_cases c4:50<d.fElements.length
 ·rw[Qa c4,show decide (50<((d.fElements.length:Nat):Int))=true by simp;omega];rfl
 ·rw[P7 c4,show decide (50<((d.fElements.length:Nat):Int))=false by simp;omega]
  simp only[OO]
  refine(kR d.fElements (fun _ e=>Am e) (fun n=>n) (fun i e he=> ?_) ?_).trans ?_
  ·have hi':=bI he
   simp only[bH hi',OL,av,he,OA,zH,cG i oM,Ko]
   unfold Am
   by_cases d1:1<=e.fMost/\e.fMost<=20
   ·rw[show(decide (1<=e.fMost)&&decide (e.fMost<=20))=true by simp[d1]]
    simp only[OS,OO,d1,and_self,not_true_eq_false,Pp]
    by_cases d2:e.fParts=[]
    ·simp only[d2,PR];rfl
    ·simp only[d2,Pp,Qj,OO]
     by_cases d3:20<e.fParts.length
     ·simp only[d3,PR]
      rw[show decide (20<((e.fParts.length:Nat):Int))=true by simp;omega];rfl
     ·simp only[d3,Pp]
      rw[show decide (20<((e.fParts.length:Nat):Int))=false by simp;omega]
      simp only[OO]
      refine(kR e.fParts (fun _ p=>wV p) (fun n=> .inr (.inr n)) (fun i e he=> ?_) ?_).trans ?_
      ·have hi':=bI he
       simp only[bH hi',OL,av,he,OA,Na,cG i oM]
       by_cases hz:wV e=0
       ·simp only[hz,PR,Qh,OS,OO]
       ·simp only[hz,Pp,Qj,Po,OL];rfl
      ·simp only[ar,OO];rfl
      ·rfl
   ·rw[show(decide (1<=e.fMost)&&decide (e.fMost<=20))=false by simp only[PC,Pb];omega]
    simp only[d1,not_false_eq_true,PR];rfl
  ·simp only[ar,OO];rfl
  ·split
   ·rename_i h;rw[h]
   ·rfl
theorem Dz {l:List Df} {i:Nat} {e:Df} (he:l[i]?=some e) (hl:l.length<=1000):
  kn (decide (0<(i:Int))) ((dg l (i:Int)).bind fun e=>(dg l (IntKind.i64.wrap ((i:Int) - 1))).bind fun e_1=>some (Op.bytesLess e.fTag e_1.fTag||decide (e.fTag=e_1.fTag)))=some (Cb ((oi l i).map (·.fTag)) e.fTag):=by
 rw[av,he]
 by_cases h0:0<i
 ·obtain⟨p,hp,hq⟩:=FD he h0
  have hi:=bI he
  have hw:IntKind.i64.wrap ((i:Int) - 1)=((i - 1:Nat):Int):=by rw[bn _ oM oM];omega
  have hd:decide (0<(i:Int))=true:=by simpa using h0
  rw[hw,av,hp,hq,hd];rfl
 ·have hi:i=0:=by omega
  subst hi;rfl
theorem Nb (l:List Df) (hl:∀ d∈l,d.fTag.length<=MX):fZ l=some (nW l):=by
 unfold fZ vo;dsimp only
 unfold nW
 by_cases c4:100<l.length
 ·rw[Qa c4,show decide (100<((l.length:Nat):Int))=true by simp;omega];rfl
 ·rw[P7 c4,show decide (100<((l.length:Nat):Int))=false by simp;omega]
  simp only[OO]
  refine(kR l Cc (fun n=>n) (fun i e he=> ?_) ?_).trans ?_
  ·have hi':=bI he
   have hm:=OE he
   have hp:=Dz he oM
   simp only[bH hi',OL]
   rw[hp]
   simp only[av,he,OA,Mk _ (hl e hm),NY,cG i oM]
   unfold Cc
   cases yQ e.fTag with
   |false=>rfl
   |true=>
    simp only[OS,OO,PV,Pp]
    cases Cb ((oi l i).map (·.fTag)) e.fTag with
    |true=>rfl
    |false=>
     simp only[OO,O5,Pp]
     by_cases hz:FC e=0
     ·rw[Qa hz,PG hz];rfl
     ·rw[P7 hz,Ql hz];rfl
  ·simp only[ar,OO];rfl
  ·split
   ·rename_i h;rw[h]
   ·rfl
def J_ (b:UInt8):Bool:=decide (97<=(b.toNat:Int))&&decide ((b.toNat:Int)<=122)
def Fy (b:UInt8):Bool:=J_ b||(decide ((b.toNat:Int)=45)||(decide (48<=(b.toNat:Int))&&decide ((b.toNat:Int)<=57)))
def wt:List UInt8:=[97,98,99,100,101,102,103,104,105,106,107,108,109,110,111,112,113,114,115,116,117,118,119,120,121,122,48,49,50,51,52,53,54,55,56,57,45]
theorem Ii:(List.range 256).all (fun n=>wt.contains (UInt8.ofNat n)==Fy (UInt8.ofNat n))=true:=by decide+kernel
theorem Ka (b:UInt8):wt.contains b=Fy b:=by
 have:=Pa.1 Ii b.toNat (PI.2 b.toNat_lt)
 have hb:UInt8.ofNat b.toNat=b:=by simp
 rw[hb] at this
 simpa using this
theorem Ij (l:List UInt8):decide (Lib.trimS l wt=[])=l.all Fy:=by
 rw[O1,OC,B8,Pa]
 simp only[Ka]
def kQ:List UInt8->Bool
 |[]=>false
 |b::l=>decide (l.length<=39)&&J_ b&&l.all Fy
theorem GD (l:List UInt8) (hl:l.length<=MX):tO l=some (kQ l):=by
 have ht:ex l wt=some (Lib.trimS l wt):=by
  unfold ex
  rw[Qa ⟨hl,by decide,by decide⟩]
 have hu:([97,98,99,100,101,102,103,104,105,106,107,108,109,110,111,112,113,114,115,116,117,118,119,120,121,122,48,49,50,51,52,53,54,55,56,57,45]:List UInt8)=wt:=rfl
 unfold tO cA;dsimp only
 rw[hu]
 cases l with
 |nil=>rfl
 |cons b l=>
  have hg:dg (b::l) 0=some b:=rfl
  simp only[hg,OA,cX,ht,Ij,kQ]
  have h1:decide (((b::l).length:Int)<1)=false:=by simp only[OW];apply Ql;omega
  have h2:decide (40<((b::l).length:Int))= !decide (l.length<=39):=by simp only[OW];rw[O1];simp<;>omega
  have h3:(decide ((b.toNat:Int)<97)||decide (122<(b.toNat:Int)))= !J_ b:=by unfold J_;rw[O1];simp
  rw[h1,h2,Pj,Bool.or_assoc,h3]
  cases hb:J_ b with
  |false=>simp
  |true=>cases decide (l.length<=39)<;>simp[Fy,hb]
def GJ {α S A:Type} (g:S->α->S⊕A) (fin:S->A):List α->S->A
 |[],s=>fin s
 |e::l,s=>match g s e with
  | .inl s'=>GJ g fin l s'
  | .inr a=>a
theorem Kt {α S T A:Type} (l:List α) (mk:Nat->S->T) (g:S->α->S⊕A) (fin:S->A) (I:S->Prop) {f:T->Option (T⊕A)}
  (hb:∀ (i:Nat) (e:α) (s:S),l[i]?=some e->I s->f (mk i s)=some (match g s e with| .inl s'=> .inl (mk (i+1) s')| .inr a=> .inr a))
  (hi:∀ (e:α) (s s':S),e∈l->I s->g s e= .inl s'->I s') (he:∀ s,I s->f (mk l.length s)=some (.inr (fin s))) (s:S) (h0:I s):bx f (mk 0 s)=some (GJ g fin l s):=by
 have:∀ (t:List α) (i:Nat) (s:S),l.drop i=t->i<=l.length->I s->bx f (mk i s)=some (GJ g fin t s):=by
  intro t
  induction t with
  |nil=>
   intro i s hd hle hs
   have:=tS hd hle
   subst this
   rw[ct,he s hs]
   rfl
  |cons e t ih=>
   intro i s hd hle hs
   obtain⟨h1,h2,h3⟩:=zF hd
   rw[ct,hb i e s h1 hs]
   simp only[GJ]
   cases hg:g s e with
   |inr a=>rfl
   |inl s'=>exact ih (i+1) s' h3 h2 (hi e s s' (OE h1) hs hg)
 exact this l 0 s rfl (Pi _) h0
def oj {α:Type} (g:Int->α->Int×Int):List α->Int->Int×Int
 |[],many=>(0,many)
 |b::l,many=>if(g many b).1=0 then oj g l (g many b).2 else g many b
def xO (D:List UInt8->Bool) (rec:List Sl->Int->Int×Int) (deep many:Int) (x:Sl):Int×Int:=
 if 300<many+1\/6<deep then(2,many+1)
 else if(tU x||v_ x)=false then(3,many+1)
 else if x.fName≠[]/\kQ x.fName=false then(5,many+1)
 else if x.fName=[]/\D x.fTag=false then(9,many+1)
 else if¬ (0<=x.fMin/\x.fMin<=x.fMax)\/¬ (1<=x.fMax/\x.fMax<=1000) then(1,many+1)
 else if x.fName=[] then(0,many+1)
 else rec x.fItems (many+1)
def Ns (D:List UInt8->Bool) (rec:List Sl->Int->Int×Int) (deep:Int) (l:List Sl) (many:Int):Int×Int:=
 if l=[] then(9,many) else if 50<l.length then(2,many) else oj (xO D rec deep) l many
def wW (D:List UInt8->Bool):Nat->List Sl->Int->Int->Int×Int
 |0,_,_,many=>(9,many)
 |k+1,l,deep,many=>Ns D (fun it m=>wW D k it (deep+1) m) deep l many
theorem Hq {α:Type} {g:Int->α->Int×Int} (hg:∀ many b,0<=many->(g many b).1=0->many<=(g many b).2/\(g many b).2<=300):∀ {l:List α} {many:Int},0<=many->many<=300->(oj g l many).1=0->many<=(oj g l many).2/\(oj g l many).2<=300
 |[],many,_,h1,_=>⟨PK _,h1⟩
 |b::l,many,h0,h1,h=>by
  unfold oj at h⊢
  by_cases hb:(g many b).1=0
  ·rw[Qa hb] at h⊢
   obtain⟨k1,k2⟩:=hg many b h0 hb
   obtain⟨q1,q2⟩:=Hq hg oM k2 h
   exact⟨by omega,q2⟩
  ·rw[P7 hb] at h;exact absurd h hb
structure NZ (D:List UInt8->Bool) (x:Sl):Prop where
 ok:Ix x
 name:x.fName≠[]->kQ x.fName=true
 tag:x.fName=[]->D x.fTag=true
 min:0<=x.fMin/\x.fMin<=x.fMax
 max:1<=x.fMax/\x.fMax<=1000
theorem Ku {D:List UInt8->Bool} {rec:List Sl->Int->Int×Int} {deep many:Int} {x:Sl} (h:(xO D rec deep many x).1=0):
  many+1<=300/\deep<=6/\NZ D x/\((x.fName=[]/\xO D rec deep many x=(0,many+1))\/(x.fName≠[]/\xO D rec deep many x=rec x.fItems (many+1))):=by
 unfold xO at h⊢
 split at h
 ·cases h
 rename_i c1
 rw[P7 c1]
 split at h
 ·cases h
 rename_i c2
 rw[P7 c2]
 split at h
 ·cases h
 rename_i c3
 rw[P7 c3]
 split at h
 ·cases h
 rename_i c4
 rw[P7 c4]
 split at h
 ·cases h
 rename_i c5
 rw[P7 c5]
 have hI:NZ D x:=by
  refine⟨?_,fun hn=> ?_,fun hn=> ?_,by omega,by omega⟩
  ·have:(tU x||v_ x)=true:=by
    cases hv:(tU x||v_ x) with
    |true=>rfl
    |false=>exact absurd hv c2
   exact(O3 _ _).mp this
  ·cases hv:kQ x.fName with
   |true=>rfl
   |false=>exact absurd ⟨hn,hv⟩ c3
  ·cases hv:D x.fTag with
   |true=>rfl
   |false=>exact absurd ⟨hn,hv⟩ c4
 refine⟨by omega,by omega,hI, ?_⟩
 by_cases hn:x.fName=[]
 ·rw[Qa hn];exact .inl ⟨hn,rfl⟩
 ·rw[P7 hn];exact .inr ⟨hn,rfl⟩
theorem FF (D:List UInt8->Bool):∀ (k:Nat) {l:List Sl} {deep many:Int},0<=many->many<=300->(wW D k l deep many).1=0->many<=(wW D k l deep many).2/\(wW D k l deep many).2<=300
 |0,_,_,_,_,_,h=>by cases h
 |k+1,l,deep,many,h0,h1,h=>by
  unfold wW Ns at h⊢
  split at h
  ·cases h
  rename_i c1
  rw[P7 c1]
  split at h
  ·cases h
  rename_i c2
  rw[P7 c2]
  refine Hq (fun m x hm hx=> ?_) h0 h1 h
  obtain⟨q1, -, -,q4⟩:=Ku hx
  rcases q4 with⟨_,q⟩|⟨_,q⟩
  ·rw[q];exact⟨by simp only;omega,by simp only;omega⟩
  ·rw[q] at hx⊢
   obtain⟨k1,k2⟩:=FF D k oM oM hx
   exact⟨by omega,k2⟩
def Kv (D:List UInt8->Bool):Nat->List Sl->Prop
 |0,_=>False
 |k+1,l=>l≠[]/\l.length<=50/\∀ x∈l,NZ D x/\(x.fName≠[]->Kv D k x.fItems)
def LR:Nat->List Sl->Nat
 |0,_=>0
 |k+1,l=>(l.map fun x=>if x.fName=[] then 1 else 1+LR k x.fItems).sum
theorem FG (D:List UInt8->Bool):∀ (k:Nat) (l:List Sl) (deep many:Int),(wW D k l deep many).1=0->Kv D k l/\(wW D k l deep many).2=many+LR k l
 |0,_,_,_,h=>by cases h
 |k+1,l,deep,many,h=>by
  unfold wW Ns at h⊢
  split at h
  ·cases h
  rename_i c1
  rw[P7 c1]
  split at h
  ·cases h
  rename_i c2
  rw[P7 c2]
  have key:∀ (l:List Sl) (many:Int),(oj (xO D (fun it m=>wW D k it (deep+1) m) deep) l many).1=0->(∀ x∈l,NZ D x/\(x.fName≠[]->Kv D k x.fItems))/\(oj (xO D (fun it m=>wW D k it (deep+1) m) deep) l many).2=many+((l.map fun x=>if x.fName=[] then 1 else 1+LR k x.fItems).sum:Nat):=by
   intro l
   induction l with
   |nil=>intro many _;exact⟨(fun x hx=>by cases hx),by simp[oj]⟩
   |cons x l ih=>
    intro many h
    unfold oj at h⊢
    by_cases hb:(xO D (fun it m=>wW D k it (deep+1) m) deep many x).1=0
    ·rw[Qa hb] at h⊢
     obtain⟨-, -,q3,q4⟩:=Ku hb
     obtain⟨k1,k2⟩:=ih _ h
     have hone:(x.fName≠[]->Kv D k x.fItems)/\(xO D (fun it m=>wW D k it (deep+1) m) deep many x).2=many+((if x.fName=[] then 1 else 1+LR k x.fItems:Nat):Int):=by
      rcases q4 with⟨hn,q⟩|⟨hn,q⟩
      ·rw[q,Qa hn];exact⟨fun h=>absurd hn h,rfl⟩
      ·rw[q] at hb⊢
       obtain⟨p1,p2⟩:=FG D k x.fItems (deep+1) (many+1) hb
       rw[P7 hn]
       exact⟨fun _=>p1,by rw[p2];omega⟩
     refine⟨fun y hy=> ?_, ?_⟩
     ·rcases ON.1 hy with rfl|hy
      ·exact⟨q3,hone.1⟩
      ·exact k1 y hy
     ·rw[k2,hone.2]
      simp only[OQ,List.sum_cons]
      omega
    ·rw[P7 hb] at h;exact absurd h hb
  obtain⟨k1,k2⟩:=key l many h
  exact⟨⟨c1,by omega,k1⟩,k2⟩
theorem Kv.len {D:List UInt8->Bool} {k:Nat} {l:List Sl} (h:Kv D k l):l.length<=50:=by
 cases k with
 |zero=>exact h.elim
 |succ k=>exact h.2.1
theorem Kv.it {D:List UInt8->Bool} {k:Nat} {l:List Sl} (h:Kv D k l) {x:Sl} (hx:x∈l):NZ D x/\(x.fName≠[]->Kv D (k - 1) x.fItems):=by
 cases k with
 |zero=>exact h.elim
 |succ k=>exact h.2.2 x hx
def Hr (rec:List Sl->List (List UInt8)) (x:Sl):List (List UInt8):=if x.fName=[] then[] else x.fName::rec x.fItems
def Cd:Nat->List Sl->List (List UInt8)
 |0,_=>[]
 |k+1,l=>l.flatMap (Hr (Cd k))
def ru:List (List UInt8)->List (List UInt8)->Bool
 |_,[]=>false
 |seen,t::l=>seen.contains t||ru (seen++[t]) l
def Et (S:List UInt8->Bool) (g:Bool):Nat->List (List UInt8)->Bool
 |_,[]=>false
 |i,t::l=>(!(g&&decide (i=0))&&S t)||Et S g (i+1) l
def Mm (rec:List Sl->(List UInt8->Bool)->Bool) (S:List UInt8->Bool):List Sl->Bool
 |[]=>false
 |x::l=>(!decide (x.fName=[])&&rec x.fItems (fun t=>S t||((x::l).map lK).contains t))||Mm rec S l
def Iy:Nat->List Sl->(List UInt8->Bool)->Bool->Bool
 |0,_,_,_=>false
 |k+1,l,S,g=>Et S g 0 (l.map lK)||ru [] (l.map lK)||Mm (fun it S'=>Iy k it S' true) S l
theorem zI {α:Type} {l:List α} {i:Nat} {e:α} (h:l[i]?=some e):l.drop i=e::l.drop (i+1):=by
 have hi:=bI h
 rw[PT hi]
 rw[OJ hi] at h
 simp only[Oy] at h;rw[h]
theorem Kw (D:List UInt8->Bool) (rec:List Sl->Int->Int×Int) (deep many:Int) (x:Sl):
  (300<many+1\/6<deep)/\xO D rec deep many x=(2,many+1)
  \/¬ (300<many+1\/6<deep)/\(tU x||v_ x)=false/\xO D rec deep many x=(3,many+1)
  \/¬ (300<many+1\/6<deep)/\(tU x||v_ x)=true/\(x.fName≠[]/\kQ x.fName=false)/\xO D rec deep many x=(5,many+1)
  \/¬ (300<many+1\/6<deep)/\(tU x||v_ x)=true/\¬ (x.fName≠[]/\kQ x.fName=false)/\(x.fName=[]/\D x.fTag=false)/\xO D rec deep many x=(9,many+1)
  \/¬ (300<many+1\/6<deep)/\(tU x||v_ x)=true/\¬ (x.fName≠[]/\kQ x.fName=false)/\¬ (x.fName=[]/\D x.fTag=false)/\(¬ (0<=x.fMin/\x.fMin<=x.fMax)\/¬ (1<=x.fMax/\x.fMax<=1000))/\xO D rec deep many x=(1,many+1)
  \/¬ (300<many+1\/6<deep)/\(tU x||v_ x)=true/\¬ (x.fName≠[]/\kQ x.fName=false)/\¬ (x.fName=[]/\D x.fTag=false)/\¬ (¬ (0<=x.fMin/\x.fMin<=x.fMax)\/¬ (1<=x.fMax/\x.fMax<=1000))/\xO D rec deep many x=if x.fName=[] then(0,many+1) else rec x.fItems (many+1):=by
 unfold xO
 by_cases c1:300<many+1\/6<deep
 ·exact .inl ⟨c1,Qa c1⟩
 refine .inr ?_
 rw[P7 c1]
 cases c2:(tU x||v_ x) with
 |false=>exact .inl ⟨c1,rfl,rfl⟩
 |true=>
  refine .inr ?_
  simp only[PV,Pp]
  by_cases c3:x.fName≠[]/\kQ x.fName=false
  ·exact .inl ⟨c1,trivial,c3,Qa c3⟩
  refine .inr ?_
  rw[P7 c3]
  by_cases c4:x.fName=[]/\D x.fTag=false
  ·exact .inl ⟨c1,trivial,c3,c4,Qa c4⟩
  refine .inr ?_
  rw[P7 c4]
  by_cases c5:¬ (0<=x.fMin/\x.fMin<=x.fMax)\/¬ (1<=x.fMax/\x.fMax<=1000)
  ·exact .inl ⟨c1,trivial,c3,c4,c5,Qa c5⟩
  ·exact .inr ⟨c1,trivial,c3,c4,c5,P7 c5⟩
def Oa (s:br):Int:=
 if kQ s.fKind=false\/kQ s.fVersion=false then 5
 else if nW s.fDefs≠0 then nW s.fDefs
 else if(wW (bJ s.fDefs) 8 s.fItems 0 0).1≠0 then(wW (bJ s.fDefs) 8 s.fItems 0 0).1
 else if ru [] (Cd 8 s.fItems)=true then 7
 else if Iy 8 s.fItems (fun _=>false) false=true then 12
 else 0
structure Ou (s:br):Prop where
 kind:s.fKind.length<=MX
 version:s.fVersion.length<=MX
 tags:∀ d∈s.fDefs,d.fTag.length<=MX
 items:∀ x∈s.fItems,Hp x
theorem Kx {l:List Df} (h:nW l=0):l.length<=100:=by
 unfold nW at h
 split at h
 ·cases h
 ·omega
end Go.Proofs.YteaolfcegaidpaaGreatDoor
