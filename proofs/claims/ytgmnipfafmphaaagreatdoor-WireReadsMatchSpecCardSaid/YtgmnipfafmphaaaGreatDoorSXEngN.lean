/-
  My text.
-/
import Derived.Test.YtgmnipfafmphaaaGreatDoorSXEngM
import GoSem.ClaimChange
import GoSem.ClaimWide
import Derived.ChangeArms
namespace Go.Proofs.YtgmnipfafmphaaaGreatDoor
set_option linter.unusedSimpArgs false
set_option linter.unusedVariables false
open Go.RowKit
variable {M:Nat->Prop} {n:Nat} {t:TypeId} {v:Value}
mutual
def p4 {H:Type}:DataW H->Nat
 | .lit (.string bytes)=>bytes.length+1
 | .lit _=>1
 | .nil=>1
 | .ptr d=>p4 d+1
 | .slice g b=>rP g+rP b+1
 | .agg o=>rP o+1
 | .iface _ d=>p4 d+1
 | .map a=>Nh a+1
 | .held _=>1
def rP {H:Type}:List (DataW H)->Nat
 |[]=>0
 |d::r=>p4 d+rP r
def Nh {H:Type}:List (Lit×DataW H)->Nat
 |[]=>0
 |x::r=>RK x+Nh r
def RK {H:Type}:Lit×DataW H->Nat
 |(.string bytes,d)=>bytes.length+p4 d+1
 |(_,d)=>p4 d+1
end
mutual
def OW:DV->Nat
 | .str s=>s.length+1
 | .slice rows=>Jw rows+1
 | .agg cs=>rh cs
 | .tup cs=>rh cs
 | .ptr cs=>rh cs+1
 | .fn _ _=>1
 | .int _ _=>1
 | .bool _=>1
 | .raw _=>1
 | .map _ _=>1
 | .err=>1
 | .any=>1
def rh:List DV->Nat
 |[]=>0
 |c::cs=>OW c+rh cs
def Jw:List (List DV)->Nat
 |[]=>0
 |r::rs=>rh r+Jw rs
end
theorem Bk:∀ (a b:List DV),rh (a++b)=rh a+rh b
 |[],b=>by simp[rh]
 |c::a,b=>by simp[rh,Bk a b];omega
def Bl (P:Program):Nat->List Field->Nat->Bool
 |o,[],n=>o==n
 |o,f::O,n=>f.offset==o&&Bl P (o+P.cellsOf f.type) O n
def yq (P:Program):Nat->TypeId->Bool
 |0,_=>false
 |n+1,t=>match P.underlying t with
  |some .bool=>true
  |some (.int _)=>true
  |some .string=>true
  |some (.slice e)=>decide (0<P.cellsOf e)&&yq P n e
  |some (.struct O)=>Bl P 0 O.toList (P.cellsOf t)&&O.toList.all (fun f=>yq P n f.type)
  |_=>false
def UD (W:TypeId->List DV->Prop):List Field->List DV->Prop
 |[],J=>J=[]
 |f::O,J=>∃ a z,J=a++z/\W f.type a/\UD W O z
def WT (P:Program):Nat->TypeId->List DV->Prop
 |0,_,_=>False
 |n+1,t,J=>match P.underlying t with
  |some .bool=>∃ b,J=[.bool b]
  |some (.int k)=>∃ m,J=[.int k m]/\(Lit.int k m).wf=true
  |some .string=>∃ s,J=[.str s]/\s.length<=maxLen
  |some (.slice e)=>∃ rows,J=[.slice rows]/\rows.length<=maxLen/\∀ r∈rows,WT P n e r
  |some (.struct O)=>UD (WT P n) O.toList J
  |_=>False
def QV:Nat->Prop:=fun _=>False
theorem C9 {α:Type} {f:Nat->Option α}:∀ (m k:Nat) {ys:List α},(List.range' k m).mapM f=some ys->ys.length=m/\∀ j,j<m->∃ y,f (k+j)=some y/\ys[j]?=some y
 |0,k,ys,h=>by simp at h;subst h;simp
 |m+1,k,ys,h=>by
  rw[List.range'_succ,List.mapM_cons] at h
  cases C:f k with
  |none=>simp[C] at h
  |some y=>
   cases D:(List.range' (k+1) m).mapM f with
   |none=>simp[C,D] at h
   |some zs=>
    simp[C,D] at h
    subst h
    obtain⟨h1,h2⟩:=C9 m (k+1) D
    refine⟨by simp[h1],fun j hj=> ?_⟩
    cases j with
    |zero=>exact⟨y,by simpa using C,by simp⟩
    |succ j=>
     obtain⟨z,G,d⟩:=h2 j oM
     exact⟨z,by rw[show k+(j+1)=k+1+j by omega];exact G,by simpa using d⟩
theorem HV {α:Type} {f:Nat->Option α} {m:Nat} {ys:List α} (h:(List.range m).mapM f=some ys):ys.length=m/\∀ j,j<m->∃ y,f j=some y/\ys[j]?=some y:=by
 rw[List.range_eq_range'] at h
 simpa using C9 m 0 h
theorem Fq {w:World} {a:Addr} {vs:List Value} (h:w.cells? 0 a n=some vs):vs.length=n/\∀ j v,vs[j]?=some v->w.cell? (a.add j)=some v:=by
 simp only[World.cells?,V0,VW] at h
 obtain⟨h1,h2⟩:=HV h
 refine⟨h1,fun j v hj=> ?_⟩
 have h9:=(Vr.1 hj).1
 obtain⟨y,b,d⟩:=h2 j oM
 rw[hj] at d;simp at d;subst d;exact b
section
variable {H:Type} {enc:TypeId×Value->H} {P:Program} {w:World} {sp:Nat->Bool} {l:Bool}
def HW (P:Program) (w:World) (n:Nat) (t:TypeId) (cs:List Value) (a:Nat):Prop:=
 ∃ J,aM w QV J cs/\(∀ x∈cs,x.oneCell'=true)/\WT P n t J/\rh J<=a
theorem HY:∀ (O:List Field) (o n:Nat),Bl P o O n=true->o<=n
 |[],o,n,h=>by simp[Bl] at h;omega
 |f::O,o,n,h=>by
  simp only[Bl,Vj] at h
  have:=HY O _ _ h.2
  omega
theorem zf {n u:Nat} (ih:∀ t cs d ps,yq P n t=true->DataW.trod enc P w 0 sp l u t cs=some (d,ps)->HW P w n t cs (p4 d)) (cs:List Value):
  ∀ (O:List Field) (o:Nat) (xs:List (DataW H×List MemPlace)),Bl P o O cs.length=true->O.all (fun f=>yq P n f.type)=true->xs.length=O.length->
  (∀ (i:Nat) (f:Field),O[i]?=some f->DataW.trod enc P w 0 sp l u f.type ((cs.drop f.offset).take (P.cellsOf f.type))=xs[i]?)->
  ∃ J,aM w QV J (cs.drop o)/\(∀ x∈cs.drop o,x.oneCell'=true)/\UD (WT P n) O J/\rh J<=rP (xs.map (·.1))
 |[],o,xs,ht,r5,hl,hx=>by
  simp only[Bl,Vz] at ht
  have:cs.drop o=[]:=List.drop_eq_nil_iff.2 oM
  rw[this]
  exact⟨[],by simp[aM],by simp,rfl,by simp[rh]⟩
 |f::O,o,[],ht,r5,hl,hx=>by simp at hl
 |f::O,o,y::zs,ht,r5,hl,hx=>by
  simp only[Bl,Vj,Vz] at ht
  obtain⟨rfl,ht⟩:=ht
  simp only[Wv,Vj] at r5
  have C:=hx 0 f oS
  simp only[VZ] at C
  have s0:=HY O _ _ ht
  obtain⟨b,h1,h2,E,h4⟩:=zf ih cs O (f.offset+P.cellsOf f.type) zs ht r5.2 (by simpa using hl) (fun i g L=>by simpa using hx (i+1) g (by simpa using L))
  obtain⟨c,g1,g2,g3,g4⟩:=ih f.type _ y.1 y.2 r5.1 C
  have a:cs.drop f.offset=(cs.drop f.offset).take (P.cellsOf f.type)++cs.drop (f.offset+P.cellsOf f.type):=by
   rw[<-Wr];exact(VH _ _).symm
  refine⟨c++b,by rw[a];exact g1.append h1, ?_,⟨c,b,rfl,g3,E⟩,by rw[Bk];simp[rP];omega⟩
  intro x hx
  rw[a] at hx
  rcases VM.1 hx with hx|hx
  ·exact g2 x hx
  ·exact h2 x hx
theorem C_ {n u e:Nat} (ih:∀ t cs d ps,yq P n t=true->DataW.trod enc P w 0 sp l u t cs=some (d,ps)->HW P w n t cs (p4 d)) (r5:yq P n e=true) (b o:Nat):
  ∀ (g:List (DataW H×List MemPlace)) (k:Nat),(∀ i,i<g.length->(w.cells? 0 ⟨b,o+(k+i) * P.cellsOf e,none⟩ (P.cellsOf e)).bind (DataW.trod enc P w 0 sp l u e)=g[i]?)->
  ∃ rows,rows.length=g.length/\bd w QV rows b (o+k * P.cellsOf e) (P.cellsOf e)/\(∀ r∈rows,WT P n e r)/\Jw rows<=rP (g.map (·.1))
 |[],k,h=>⟨[],rfl,by simp[bd],by simp,by simp[Jw]⟩
 |y::g,k,h=>by
  have h0:=h 0 oS
  simp only[WO,VZ] at h0
  cases hc:w.cells? 0 ⟨b,o+k * P.cellsOf e,none⟩ (P.cellsOf e) with
  |none=>simp[hc] at h0
  |some vs=>
   simp only[hc,Vh] at h0
   obtain⟨hl,r0⟩:=Fq hc
   obtain⟨J,g1,g2,g3,g4⟩:=ih e vs y.1 y.2 r5 h0
   obtain⟨rows,r1,r2,r3,r4⟩:=C_ ih r5 b o g (k+1) (fun i hi=>by
    have:=h (i+1) (by simp only[Vk];omega)
    rw[show k+1+i=k+(i+1) by omega];simpa using this)
   have I:=g1.length
   refine⟨J::rows,by simp[r1], ?_,by simpa using⟨g3,r3⟩,by simp only[Jw,VF,rP];omega⟩
   unfold bd
   refine⟨by omega, ?_, ?_⟩
   ·rw[b4.iff]
    intro i c hi
    obtain⟨v,hv,D⟩:=g1.get hi
    have:=r0 i v hv
    rw[iC] at this
    exact⟨v,this,g2 v (Vq hv),D⟩
   ·rw[show o+k * P.cellsOf e+P.cellsOf e=o+(k+1) * P.cellsOf e by rw[WA];omega];exact r2
theorem Da:∀ (u n:Nat) (t:TypeId) (cs:List Value) (d:DataW H) (ps:List MemPlace),yq P n t=true->DataW.trod enc P w 0 sp l u t cs=some (d,ps)->HW P w n t cs (p4 d)
 |0,n,t,cs,d,ps,r5,h=>by simp[DataW.trod] at h
 |u+1,0,t,cs,d,ps,r5,h=>by simp[yq] at r5
 |u+1,n+1,t,cs,d,ps,r5,h=>by
  have one:∀ (c:DV) (v:Value) (b:Nat),bf w QV c v->v.oneCell'=true->WT P (n+1) t [c]->OW c<=b->HW P w (n+1) t [v] b:=fun c v b h1 h2 E h4=>
   ⟨[c],aM.one h1,by simpa using h2,E,by simpa[rh] using h4⟩
  have ih:∀ t cs d ps,yq P n t=true->DataW.trod enc P w 0 sp l u t cs=some (d,ps)->HW P w n t cs (p4 d):=fun t cs d ps=>Da u n t cs d ps
  simp only[yq] at r5
  cases hu:P.underlying t with
  |none=>simp[hu] at r5
  |some S=>
   cases S with
   |bool=>
    obtain⟨b,rfl,hx⟩:=DataW.trod_bool hu h
    simp only[Vm] at hx
    obtain⟨rfl,rfl⟩:=hx
    exact one (.bool b) _ _ (by simp[bf]) rfl (by simp only[WT,hu];exact⟨b,rfl⟩) (by simp[OW,p4])
   |int k=>
    obtain⟨m,rfl,hx,x⟩:=DataW.trod_int hu h
    simp only[Vm] at hx
    obtain⟨rfl,rfl⟩:=hx
    exact one (.int k m) _ _ (by simp[bf]) rfl (by simp only[WT,hu];exact⟨m,rfl,x⟩) (by simp[OW,p4])
   |string=>
    obtain⟨s,rfl,hx,s0⟩:=DataW.trod_string hu h
    simp only[Vm] at hx
    obtain⟨rfl,rfl⟩:=hx
    have hs:s=⟨s.data.toList.toArray⟩:=(Lib.mk_data s).symm
    have F:s.data.toList.length=s.size:=by rw[Lib.size_eq]
    exact one (.str s.data.toList) _ _ (by unfold bf;exact Wf Value.string hs) rfl (by simp only[WT,hu];exact⟨_,rfl,by omega⟩) (by simp[OW,p4])
   |slice e=>
    simp only[hu,Vj,Vv] at r5
    obtain⟨X,r5⟩:=r5
    rcases DataW.trod_slice hu h with⟨rfl,hx⟩|⟨a,len,N,g,z,n',A,rfl,hx,_,q,y,K,R,_,_⟩
    ·simp only[Vm] at hx
     obtain⟨rfl,rfl⟩:=hx
     refine one (.slice []) _ _ ?_ rfl (by simp only[WT,hu];exact⟨[],rfl,by simp,by simp⟩) (by simp[OW,Jw,p4])
     unfold bf
     exact⟨none,0,rfl,Vs _,fun _=>rfl,.inl rfl⟩
    ·simp only[Vm] at hx
     obtain⟨rfl,rfl⟩:=hx
     have j:n'=u:=by omega
     subst j
     by_cases M:len=0
     ·subst M
      have:g=[]:=Vx.1 K
      subst this
      refine one (.slice []) _ _ ?_ rfl (by simp only[WT,hu];exact⟨[],rfl,by simp,by simp⟩) (by simp[OW,Jw,p4])
      unfold bf
      exact⟨some a,N,rfl,V0 _,by simp,.inl rfl⟩
     ·
      have p:a.spot=none:=by
       have h0:=R 0 oM
       simp only[XL] at h0
       have e0:a.add 0=a:=by simp[Addr.add]
       rw[e0] at h0
       cases hc:w.cells? 0 a (P.cellsOf e) with
       |none=>
        simp only[hc,Option.bind_none] at h0
        rw[Vu oM] at h0
        cases h0
       |some vs=>
        obtain⟨hl,r0⟩:=Fq hc
        obtain⟨v,hv⟩:∃ v,vs[0]?=some v:=⟨_,Vu oM⟩
        have:=r0 0 v hv
        rw[e0] at this
        unfold World.cell? at this
        split at this
        ·split at this
         ·cases this
         ·rename_i hs;simpa using hs
        ·cases this
      obtain⟨b,o,B⟩:=a
      simp only at p
      subst p
      obtain⟨rows,r1,r2,r3,r4⟩:=C_ ih r5 b o g 0 (fun i hi=>by
       have:=R i oM
       rw[iC] at this
       simpa using this)
      simp only[XL,WO] at r2
      have hb:b<w.heap.size:=by
       have U:rows≠[]:=fun e=>by subst e;simp at r1;omega
       obtain⟨r,rs,rfl⟩:=List.exists_cons_of_ne_nil U
       unfold bd at r2
       obtain⟨h1,h2,_⟩:=r2
       rw[b4.iff] at h2
       obtain⟨c,hc⟩:∃ c,r[0]?=some c:=⟨_,Vu oM⟩
       obtain⟨v,hv,_⟩:=h2 0 c hc
       exact World.block_lt_of_cell? w _ hv
      refine one (.slice rows) _ _ ?_ rfl (by simp only[WT,hu];exact⟨rows,rfl,by omega,r3⟩) (by simp only[OW,p4];omega)
      unfold bf
      exact⟨some ⟨b,o,none⟩,N,by rw[r1,K],by omega,by simp,.inr ⟨b,o,P.cellsOf e,rfl,fun h=>h,hb,r2⟩⟩
   |struct O=>
    simp only[hu,Vj] at r5
    obtain⟨xs,n',A,hx,hl,r6,R⟩:=DataW.trod_struct hu h
    simp only[Vm] at hx
    obtain⟨rfl,rfl⟩:=hx
    have j:n'=u:=by omega
    subst j
    obtain⟨J,h1,h2,E,h4⟩:=zf ih cs O.toList 0 xs (by rw[hl];exact r5.1) r5.2 (by simpa using r6) (fun i f C=>R i f (by simpa using C))
    simp only[XA] at h1 h2
    exact⟨J,h1,h2,by simp only[WT,hu];exact E,by simp only[p4];omega⟩
   |_=>simp[hu] at r5
theorem Ni {d:DataW H} {ps:List MemPlace} (r5:yq P n t=true) (h:DataW.Trod enc P w 0 sp l t v d ps):∃ J,WT P n t J/\rh J<=p4 d/\aM w QV J v.cells.toList/\(∀ x∈v.cells.toList,x.oneCell'=true):=by
 obtain⟨u,h⟩:=h
 obtain⟨J,h1,h2,E,h4⟩:=Da u n t _ d ps r5 h
 exact⟨J,E,h4,h1,h2⟩
theorem Jx {W:World} {g:Nat} {O:Array Field} (ht:P.underlying t=some (.struct O)) (h:Value.okWide P W .any g t v):∃ vs,v= .agg vs:=by
 unfold Value.okWide at h
 simp only[ht] at h
 obtain⟨cs,h,_⟩:=h
 exact⟨cs,h⟩
theorem PD {vs:Array Value} {J:List DV} (hv:v= .agg vs) (h:aM w M J v.cells.toList) (h1:∀ x∈v.cells.toList,x.oneCell'=true):bf w M (.agg J) v:=by
 subst hv
 unfold bf
 exact⟨vs.toList,by simp,h1,h⟩
theorem Ci {c:DV} (hv:∀ vs,v≠ .agg vs) (h:aM w M [c] v.cells.toList):bf w M c v:=by
 have:v.cells= #[v]:=by
  cases v with
  |agg vs=>exact absurd rfl (hv vs)
  |_=>rfl
 rw[this] at h
 simp only[aM] at h
 obtain⟨u,X,he,D,_⟩:=h
 simp at he
 rw[he.1];exact D
end
