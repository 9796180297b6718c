/-
  My text.
-/
import Derived.Test.YtgmnipfafmphaaaGreatDoorSYEngR
import Derived.Shelf.Vars
namespace Go.Proofs.YtgmnipfafmphaaaGreatDoor
set_option linter.unusedSimpArgs false
set_option linter.unusedVariables false
open Go.RowKit
variable {A:Field} {O:Array Field} {P:Program} {e:TypeId} {g:Nat} {k:IntKind} {n:Nat} {t t0:TypeId} {x:Field}
theorem C2 {α:Type} {g:α->List Value}:∀ (f:List α) (cs:List Value),cs.length=f.length * 2->(∀ i z,f[i]?=some z->(cs.drop (i * 2)).take 2=g z)->cs=f.flatMap g
 |[],cs,hl,_=>by
  have:cs=[]:=Ta.1 (by simpa using hl)
  rw[this];rfl
 |z::f,cs,hl,h=>by
  have h0:=h 0 z rfl
  simp only[Ve,U5] at h0
  have ih:=C2 (g:=g) f (cs.drop 2) (by rw[TQ];simp only[ST] at hl;omega) (fun i y hy=>by
   have:=h (i+1) y (by simpa using hy)
   rw[T4,show 2+i * 2=(i+1) * 2 by omega]
   exact this)
  rw[Tu,<-ih,<-h0,Tl]
theorem Az {H:Type} {enc:TypeId×Value->H} {w:World} {sp:Nat->Bool} {l:Bool} {u:Nat} {cs:List Value} {f:List (Int×Int)} {p:List MemPlace} (ht:P.underlying t=some (.array n e)) (he:P.underlying e=some (.struct O)) (s8:O.toList=[x,A]) (y:x.type=t0) (j:A.type=t0) (B:x.offset=0) (r9:A.offset=1) (h0:P.underlying t0=some (.int k)) (d:P.cellsOf t0=1) (r:P.cellsOf e=2) (s:P.cellsOf t=n * 2) (h:DataW.trod enc P w g sp l u t cs=some (.agg (f.map fun z=> .agg [.lit (.int k z.1),.lit (.int k z.2)]),p)):cs=f.flatMap fun z=>[Value.int k z.1,Value.int k z.2]:=by
 cases u with
 |zero=>simp[DataW.trod] at h
 |succ u=>
  simp only[DataW.trod,ht,r,s] at h
  split at h
  ·rename_i hl
   obtain⟨xs,Z,hx⟩:=Option.map_eq_some_iff.1 h
   have T:xs.map (·.1)=f.map fun z=>(DataW.agg [.lit (.int k z.1),.lit (.int k z.2)]:DataW H):=by
    have:=TX Prod.fst hx
    simpa using this
   have r6:xs.length=n:=by simpa using Lib.mapM_length Z
   have F:f.length=n:=by
    have:=TX List.length T
    simp at this
    omega
   refine C2 f cs (by rw[hl,F]) fun i z hz=> ?_
   have hi:i<n:=by
    have:=(SY.1 hz).1
    omega
   obtain⟨b,hb,C⟩:=Lib.mapM_at Z i i (by simp[hi])
   have s4:b.1=DataW.agg [.lit (.int k z.1),.lit (.int k z.2)]:=by
    have h2:(xs.map (·.1))[i]?=some b.1:=by simp[hb]
    rw[T] at h2
    simp only[TC,hz,Uf,SN] at h2
    exact h2.symm
   generalize U:(cs.drop (i * 2)).take 2=c2 at C⊢
   cases u with
   |zero=>simp[DataW.trod] at C
   |succ u=>
    simp only[DataW.trod,he,r,s8] at C
    split at C
    ·rename_i L
     obtain⟨ys,r7,hy⟩:=Option.map_eq_some_iff.1 C
     obtain⟨q,v3,u8⟩:=Lib.mapM_at r7 0 x rfl
     obtain⟨b1,D,v⟩:=Lib.mapM_at r7 1 A rfl
     have o:ys.length=2:=by simpa using Lib.mapM_length r7
     rw[y,B,d] at u8
     rw[j,r9,d] at v
     obtain⟨z0,G,rfl,_⟩:=DataW.trod_int h0 u8
     obtain⟨N,K,rfl,_⟩:=DataW.trod_int h0 v
     have m:ys.map (·.1)=[.lit (.int k z0),.lit (.int k N)]:=by
      match ys,o,v3,D with
      |[a,c],_,E,h4=>
       simp only[Tz,SN] at E
       simp only[TO,Tz,SN] at h4
       rw[E,h4];rfl
     have h5:b.1=DataW.agg (ys.map (·.1)):=by rw[<-hy]
     rw[s4,m] at h5
     simp only[DataW.agg.injEq,TG,DataW.lit.injEq,Lit.int.injEq,true_and,and_true] at h5
     match c2,L,G,K with
     |[a,c],_,h6,h7=>
      simp only[U5,UH,List.take_zero,U_,TG,and_true] at h6 h7
      rw[h6,h7,h5.1,h5.2]
    ·cases C
  ·cases h
theorem FH {W:World} {b:List (String×DataW Unit)} {c:String} {zs:List Int} (f:List (Int×Int)) (h:laidMet P b W) (Z:(c,DataW.agg (f.map fun z=> .agg [.lit (.int k z.1),.lit (.int k z.2)]))∈b) (hg:P.globalNamed c=some g) (i:(P.globals[g]?).map (·.type)=some t) (ht:P.underlying t=some (.array n e)) (he:P.underlying e=some (.struct O)) (h0:P.underlying t0=some (.int k)) (s8:O.toList=[x,A]) (y:x.type=t0) (j:A.type=t0) (B:x.offset=0) (r9:A.offset=1) (d:P.cellsOf t0=1) (r:P.cellsOf e=2) (s:P.cellsOf t=n * 2) (Q:(f.flatMap fun z=>[z.1,z.2])=zs) (hz:zs≠[]):n_ W (g,k,zs):=by
 obtain⟨ps,hl, -⟩:=h
 obtain⟨F,t',cs,u,p,q,r8,a,hd⟩:=Ei hl Z
 obtain rfl:=Uq (hg.symm.trans q)
 obtain rfl:=Uq (i.symm.trans r8)
 have hc:=Az ht he s8 y j B r9 h0 d r s hd
 have v:cs.toList=zs.map fun z=>Value.int k z:=by
  rw[hc,<-Q,List.map_flatMap];rfl
 unfold World.var? at a
 rw[hg] at a
 simp only[SQ] at a
 refine .inr ⟨hz, ?_⟩
 cases hb:W.heap[g]? with
 |none=>rw[hb] at a;cases a
 |some o=>
  rw[hb] at a
  cases o<;>first
   |(cases a;done)
   |(rename_i C ty l
     have:C=cs:=by simpa using a
     subst this
     exact⟨ty,l,by rw[<-v]⟩)
end Go.Proofs.YtgmnipfafmphaaaGreatDoor

