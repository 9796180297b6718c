/-
  My text.
-/
import Derived.Test.YtgmnipfafmphaaaGreatDoorSXEngR
import Derived.Shelf.Vars
namespace Go.Proofs.YtgmnipfafmphaaaGreatDoor
set_option linter.unusedSimpArgs false
set_option linter.unusedVariables false
open Go.RowKit
variable {A:Field} {O:Array Field} {P:Program} {e:TypeId} {g:Nat} {k:IntKind} {n:Nat} {t t0:TypeId} {x:Field}
theorem Fs {α:Type} {g:α->List Value}:∀ (f:List α) (cs:List Value),cs.length=f.length * 2->(∀ i z,f[i]?=some z->(cs.drop (i * 2)).take 2=g z)->cs=f.flatMap g
 |[],cs,hl,_=>by
  have:cs=[]:=Vx.1 (by simpa using hl)
  rw[this];rfl
 |z::f,cs,hl,h=>by
  have h0:=h 0 z rfl
  simp only[XL,XA] at h0
  have ih:=Fs (g:=g) f (cs.drop 2) (by rw[Wd];simp only[Vk] at hl;omega) (fun i y hy=>by
   have:=h (i+1) y (by simpa using hy)
   rw[Wr,show 2+i * 2=(i+1) * 2 by omega]
   exact this)
  rw[WB,<-ih,<-h0,VH]
theorem Dl {H:Type} {enc:TypeId×Value->H} {w:World} {sp:Nat->Bool} {l:Bool} {u:Nat} {cs:List Value} {f:List (Int×Int)} {p:List MemPlace} (ht:P.underlying t=some (.array n e)) (he:P.underlying e=some (.struct O)) (s7:O.toList=[x,A]) (D:x.type=t0) (j:A.type=t0) (I:x.offset=0) (X:A.offset=1) (h0:P.underlying t0=some (.int k)) (B:P.cellsOf t0=1) (m:P.cellsOf e=2) (s:P.cellsOf t=n * 2) (h:DataW.trod enc P w g sp l u t cs=some (.agg (f.map fun z=> .agg [.lit (.int k z.1),.lit (.int k z.2)]),p)):cs=f.flatMap fun z=>[Value.int k z.1,Value.int k z.2]:=by
 cases u with
 |zero=>simp[DataW.trod] at h
 |succ u=>
  simp only[DataW.trod,ht,m,s] at h
  split at h
  ·rename_i hl
   obtain⟨xs,Z,hx⟩:=Option.map_eq_some_iff.1 h
   have T:xs.map (·.1)=f.map fun z=>(DataW.agg [.lit (.int k z.1),.lit (.int k z.2)]:DataW H):=by
    have:=Wf Prod.fst hx
    simpa using this
   have r6:xs.length=n:=by simpa using Lib.mapM_length Z
   have r:f.length=n:=by
    have:=Wf List.length T
    simp at this
    omega
   refine Fs f cs (by rw[hl,r]) fun i z hz=> ?_
   have hi:i<n:=by
    have:=(Vr.1 hz).1
    omega
   obtain⟨b,hb,C⟩:=Lib.mapM_at Z i i (by simp[hi])
   have r7:b.1=DataW.agg [.lit (.int k z.1),.lit (.int k z.2)]:=by
    have h2:(xs.map (·.1))[i]?=some b.1:=by simp[hb]
    rw[T] at h2
    simp only[V5,hz,WJ,Vi] at h2
    exact h2.symm
   generalize r3:(cs.drop (i * 2)).take 2=c2 at C⊢
   cases u with
   |zero=>simp[DataW.trod] at C
   |succ u=>
    simp only[DataW.trod,he,m,s7] at C
    split at C
    ·rename_i M
     obtain⟨ys,r8,hy⟩:=Option.map_eq_some_iff.1 C
     obtain⟨F,v2,v3⟩:=Lib.mapM_at r8 0 x rfl
     obtain⟨b1,v,q⟩:=Lib.mapM_at r8 1 A rfl
     have o:ys.length=2:=by simpa using Lib.mapM_length r8
     rw[D,I,B] at v3
     rw[j,X,B] at q
     obtain⟨z0,y,rfl,_⟩:=DataW.trod_int h0 v3
     obtain⟨N,G,rfl,_⟩:=DataW.trod_int h0 q
     have d:ys.map (·.1)=[.lit (.int k z0),.lit (.int k N)]:=by
      match ys,o,v2,v with
      |[a,c],_,E,h4=>
       simp only[VZ,Vi] at E
       simp only[Wl,VZ,Vi] at h4
       rw[E,h4];rfl
     have h5:b.1=DataW.agg (ys.map (·.1)):=by rw[<-hy]
     rw[r7,d] at h5
     simp only[DataW.agg.injEq,V9,DataW.lit.injEq,Lit.int.injEq,true_and,and_true] at h5
     match c2,M,y,G with
     |[a,c],_,h6,h7=>
      simp only[XA,Xd,List.take_zero,XE,V9,and_true] at h6 h7
      rw[h6,h7,h5.1,h5.2]
    ·cases C
  ·cases h
theorem H7 {W:World} {b:List (String×DataW Unit)} {c:String} {zs:List Int} (f:List (Int×Int)) (h:laidMet P b W) (Z:(c,DataW.agg (f.map fun z=> .agg [.lit (.int k z.1),.lit (.int k z.2)]))∈b) (L:P.globalNamed c=some g) (l:(P.globals[g]?).map (·.type)=some t) (ht:P.underlying t=some (.array n e)) (he:P.underlying e=some (.struct O)) (h0:P.underlying t0=some (.int k)) (s7:O.toList=[x,A]) (D:x.type=t0) (j:A.type=t0) (I:x.offset=0) (X:A.offset=1) (B:P.cellsOf t0=1) (m:P.cellsOf e=2) (s:P.cellsOf t=n * 2) (R:(f.flatMap fun z=>[z.1,z.2])=zs) (hz:zs≠[]):rL W (g,k,zs):=by
 obtain⟨ps,hl, -⟩:=h
 obtain⟨r,t',cs,u,p,i,M,a,hd⟩:=GL hl Z
 obtain rfl:=W5 (L.symm.trans i)
 obtain rfl:=W5 (l.symm.trans M)
 have hc:=Dl ht he s7 D j I X h0 B m s hd
 have v:cs.toList=zs.map fun z=>Value.int k z:=by
  rw[hc,<-R,List.map_flatMap];rfl
 unfold World.var? at a
 rw[L] at a
 simp only[Vh] at a
 refine .inr ⟨hz, ?_⟩
 cases hb:W.heap[g]? with
 |none=>rw[hb] at a;cases a
 |some o=>
  rw[hb] at a
  cases o<;>first
   |(cases a;done)
   |(rename_i C ty d
     have:C=cs:=by simpa using a
     subst this
     exact⟨ty,d,by rw[<-v]⟩)
