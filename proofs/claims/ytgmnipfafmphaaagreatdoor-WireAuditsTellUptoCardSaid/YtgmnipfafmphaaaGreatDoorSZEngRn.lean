/-
  My text.
-/
import Derived.Test.YtgmnipfafmphaaaGreatDoorSZEngR
import Derived.Shelf.Vars
namespace Go.Proofs.YtgmnipfafmphaaaGreatDoor
set_option linter.unusedSimpArgs false
set_option linter.unusedVariables false
open Go.RowKit
theorem yj {α:Type} {g:α->List Value}:∀ (zz:List α) (cs:List Value),cs.length=zz.length * 2->(∀ i z,zz[i]?=some z->(cs.drop (i * 2)).take 2=g z)->cs=zz.flatMap g
 |[],cs,hl,_=>by
  have:cs=[]:=Ld.1 (by simpa using hl)
  rw[this];rfl
 |z::zz,cs,hl,h=>by
  have h0:=h 0 z rfl
  simp only[M_,Nc] at h0
  have ih:=yj (g:=g) zz (cs.drop 2) (by rw[L5];simp only[K7] at hl;omega) (fun i y hy=>by
   have:=h (i+1) y (by simpa using hy)
   rw[Mn,show 2+i * 2=(i+1) * 2 by omega]
   exact this)
  rw[L_,<-ih,<-h0,Lg]
theorem vU {H:Type} {enc:TypeId×Value->H} {P:Program} {w:World} {base:Nat} {sp:Nat->Bool} {held:Bool} {fuel:Nat} {t e t0:TypeId} {n:Nat} {k:IntKind} {fs:Array Field} {f0 f1:Field} {cs:List Value} {zz:List (Int×Int)} {p:List MemPlace}
  (ht:P.underlying t=some (.array n e)) (he:P.underlying e=some (.struct fs)) (hfs:fs.toList=[f0,f1]) (hf0:f0.type=t0) (hf1:f1.type=t0) (ho0:f0.offset=0) (ho1:f1.offset=1) (h0:P.underlying t0=some (.int k)) (hc0:P.cellsOf t0=1) (hce:P.cellsOf e=2) (hct:P.cellsOf t=n * 2)
  (h:DataW.trod enc P w base sp held fuel t cs=some (.agg (zz.map fun z=> .agg [.lit (.int k z.1),.lit (.int k z.2)]),p)):cs=zz.flatMap fun z=>[Value.int k z.1,Value.int k z.2]:=by
 cases fuel with
 |zero=>simp[DataW.trod] at h
 |succ fuel=>
  simp only[DataW.trod,ht,hce,hct] at h
  split at h
  ·rename_i hl
   obtain⟨xs,hm,hx⟩:=Option.map_eq_some_iff.1 h
   have hxs:xs.map (·.1)=zz.map fun z=>(DataW.agg [.lit (.int k z.1),.lit (.int k z.2)]:DataW H):=by
    have:=Na Prod.fst hx
    simpa using this
   have hxl:xs.length=n:=by simpa using Lib.mapM_length hm
   have hzl:zz.length=n:=by
    have:=Na List.length hxs
    simp at this
    omega
   refine yj zz cs (by rw[hl,hzl]) fun i z hz=> ?_
   have hi:i<n:=by
    have:=(K5.1 hz).1
    omega
   obtain⟨b,hb,hf⟩:=Lib.mapM_at hm i i (by simp[hi])
   have hb1:b.1=DataW.agg [.lit (.int k z.1),.lit (.int k z.2)]:=by
    have h2:(xs.map (·.1))[i]?=some b.1:=by simp[hb]
    rw[hxs] at h2
    simp only[LD,hz,Me,K0] at h2
    exact h2.symm
   generalize hcs:(cs.drop (i * 2)).take 2=c2 at hf⊢
   cases fuel with
   |zero=>simp[DataW.trod] at hf
   |succ fuel=>
    simp only[DataW.trod,he,hce,hfs] at hf
    split at hf
    ·rename_i hl2
     obtain⟨ys,hm2,hy⟩:=Option.map_eq_some_iff.1 hf
     obtain⟨b0,hb0,hg0⟩:=Lib.mapM_at hm2 0 f0 rfl
     obtain⟨b1,hb1',hg1⟩:=Lib.mapM_at hm2 1 f1 rfl
     have hyl:ys.length=2:=by simpa using Lib.mapM_length hm2
     rw[hf0,ho0,hc0] at hg0
     rw[hf1,ho1,hc0] at hg1
     obtain⟨z0,hz0,rfl,_⟩:=DataW.trod_int h0 hg0
     obtain⟨z1,hz1,rfl,_⟩:=DataW.trod_int h0 hg1
     have hy2:ys.map (·.1)=[.lit (.int k z0),.lit (.int k z1)]:=by
      match ys,hyl,hb0,hb1' with
      |[a,c],_,h3,h4=>
       simp only[Ma,K0] at h3
       simp only[Mb,Ma,K0] at h4
       rw[h3,h4];rfl
     have h5:b.1=DataW.agg (ys.map (·.1)):=by rw[<-hy]
     rw[hb1,hy2] at h5
     simp only[DataW.agg.injEq,LK,DataW.lit.injEq,Lit.int.injEq,true_and,and_true] at h5
     match c2,hl2,hz0,hz1 with
     |[a,c],_,h6,h7=>
      simp only[Nc,Mt,List.take_zero,MO,LK,and_true] at h6 h7
      rw[h6,h7,h5.1,h5.2]
    ·cases hf
  ·cases h
theorem AM {P:Program} {W:World} {laid:List (String×DataW Unit)} {name:String} {k:IntKind} {zs:List Int} (zz:List (Int×Int)) {g:Nat} {t e t0:TypeId} {n:Nat} {fs:Array Field} {f0 f1:Field} (h:laidMet P laid W) (hm:(name,DataW.agg (zz.map fun z=> .agg [.lit (.int k z.1),.lit (.int k z.2)]))∈laid)
  (hg:P.globalNamed name=some g) (hty:(P.globals[g]?).map (·.type)=some t) (ht:P.underlying t=some (.array n e)) (he:P.underlying e=some (.struct fs)) (h0:P.underlying t0=some (.int k)) (hfs:fs.toList=[f0,f1]) (hf0:f0.type=t0) (hf1:f1.type=t0) (ho0:f0.offset=0) (ho1:f1.offset=1)
  (hc0:P.cellsOf t0=1) (hce:P.cellsOf e=2) (hct:P.cellsOf t=n * 2) (hzs:(zz.flatMap fun z=>[z.1,z.2])=zs) (hz:zs≠[]):mU W (g,k,zs):=by
 obtain⟨ps,hl, -⟩:=h
 obtain⟨g',t',cs,fuel,p,hg',ht',hvar,hd⟩:=zw hl hm
 obtain rfl:=Mj (hg.symm.trans hg')
 obtain rfl:=Mj (hty.symm.trans ht')
 have hc:=vU ht he hfs hf0 hf1 ho0 ho1 h0 hc0 hce hct hd
 have hc2:cs.toList=zs.map fun z=>Value.int k z:=by
  rw[hc,<-hzs,List.map_flatMap];rfl
 unfold World.var? at hvar
 rw[hg] at hvar
 simp only[K3] at hvar
 refine .inr ⟨hz, ?_⟩
 cases hb:W.heap[g]? with
 |none=>rw[hb] at hvar;cases hvar
 |some o=>
  rw[hb] at hvar
  cases o<;>first
   |(cases hvar;done)
   |(rename_i cs' ty fz
     have:cs'=cs:=by simpa using hvar
     subst this
     exact⟨ty,fz,by rw[<-hc2]⟩)
end Go.Proofs.YtgmnipfafmphaaaGreatDoor

