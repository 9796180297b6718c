/-
  My text.
-/
import Derived.Test.YteaolfcegaidpaaGreatDoorSYEngRq
namespace Go.Proofs.YteaolfcegaidpaaGreatDoor
set_option linter.unusedSimpArgs false
set_option linter.unusedVariables false
open Go.RowKit
def sn (n:Int):List DV:=[.int .u32 n]
attribute [push_cast] sn
def NA (n m:Int):Option Unit:=if 0<=n/\n<=m/\m<=137438953472 then some () else none
theorem BH {n m:Int} {u:Unit}:NA n m=some u↔0<=n/\n<=m/\m<=137438953472:=by unfold NA;split<;>simp_all
theorem JK {α:Type} (row:α->List DV) (n:Nat) (z:α):List.replicate n (dR (row z))=bF row (List.replicate n z):=by simp[bF]
section
variable {P:Program} {s:Nat->SV} {h:Nat->Ch} {K:St->Prop} {sos:List SO} {α:Type} {row:α->List DV}
theorem Mf {R:Type} {r:R} {kk:Option R} {n m:Int} {k1 k2:IntKind} {dst e sz:Nat} {zv:SV} {z:α} {x y:SX} (hm:jV (NA n m) kk=some r) (hx:ev s x= .d (.int k1 n)) (hy:ev s y= .d (.int k2 m)) (hz:zv.cells?=some (dR (row z))) (hsz:(row z).length=sz)
  (hk:kk=some r->bh P K sos ⟨aH (gn dst .any s) dst (.vec dst),aH (lv dst .any h) dst (.vec e sz (bF row (List.replicate n.toNat z)))⟩):bh P K (.w dst (.mkS e sz zv x y)::sos) ⟨s,h⟩:=by
 cases hl:NA n m with
 |none=>rw[hl] at hm;cases hm
 |some u=>
  rw[hl] at hm
  refine wM (p:=(dR (row z)).length=sz/\0<=n/\n<=m/\m<=137438953472) ?_ ⟨by simpa[dR] using hsz,BH.1 hl⟩ (hk hm)
  simp only[wr,hz,hx,hy,c6,St.swap,JK,wq]
end
def tX (k:IntKind):List SV->Option (List Int)
 |[]=>some []
 | .d (.int k' n)::cs=>if k'=k then(tX k cs).map (n:: ·) else none
 |_::_=>none
def H5:SV->Option (List SV)
 | .agg cs=>some cs
 | .d (.agg ds)=>some (ds.map .d)
 |_=>none
theorem Dd {k:IntKind}:∀ {cs:List SV} {l:List Int} {i:Nat} {n:Int},tX k cs=some l->l[i]?=some n->cs[i]?=some (.d (.int k n))
 |[],l,i,n,h,hl=>by simp only[tX,Oy] at h;subst h;simp at hl
 |c::cs,l,i,n,h,hl=>by
  unfold tX at h
  split at h
  ·rename_i heq;cases heq
  ·rename_i k' m cs' heq
   simp only[O7] at heq
   obtain⟨rfl,rfl⟩:=heq
   split at h
   ·rename_i hk;subst hk
    cases hr:tX k' cs with
    |none=>rw[hr] at h;cases h
    |some l'=>
     rw[hr] at h
     simp only[Pf,Oy] at h
     subst h
     cases i with
     |zero=>simp at hl⊢;exact hl
     |succ i=>simp only[Pn] at hl⊢;exact Dd hr hl
   ·cases h
  ·cases h
theorem De {k:IntKind}:∀ {cs:List SV} {l:List Int},tX k cs=some l->l.length=cs.length
 |[],l,h=>by simp only[tX,Oy] at h;subst h;rfl
 |c::cs,l,h=>by
  unfold tX at h
  split at h
  ·rename_i heq;cases heq
  ·rename_i k' m cs' heq
   simp only[O7] at heq
   obtain⟨rfl,rfl⟩:=heq
   split at h
   ·rename_i hk;subst hk
    cases hr:tX k' cs with
    |none=>rw[hr] at h;cases h
    |some l'=>
     rw[hr] at h
     simp only[Pf,Oy] at h
     subst h
     simp[De hr]
   ·cases h
  ·cases h
section
variable {P:Program} {s:Nat->SV} {h:Nat->Ch} {K:St->Prop} {sos:List SO}
theorem MM {R:Type} {r:R} {l:List Int} {cs:List SV} {n:Int} {x i:SX} {k ki:IntKind} {dst len:Nat} {kk:Int->Option R} (hm:(dg l n).bind kk=some r) (hx:H5 (ev s x)=some cs) (hc:tX k cs=some l) (hl:cs.length=len) (hi:ev s i= .d (.int ki n))
  (hk:∀ e,kk e=some r->bh P K sos ⟨aH s dst (.d (.int k e)),h⟩):bh P K (.r dst (.vidx len x i)::sos) ⟨s,h⟩:=by
 cases he:dg l n with
 |none=>rw[he] at hm;cases hm
 |some e=>
  rw[he] at hm
  unfold dg at he
  split at he
  ·rename_i h0
   have hg:=Dd hc he
   have hlt:n<len:=by
    have:=(OG.1 he).1
    rw[De hc,hl] at this;omega
   refine im (p:=0<=n/\n<len) (v:= .d (.int k e)) ?_ ⟨h0,hlt⟩ (hk e hm)
   cases hxe:ev s x with
   |agg cs'=>rw[hxe] at hx;simp only[H5,Oy] at hx;subst hx;simp only[rd,hxe,hi,hg]
   |d v=>
    cases v with
    |agg ds=>
     rw[hxe] at hx;simp only[H5,Oy] at hx;subst hx
     rw[O6] at hg
     cases hd:ds[n.toNat]? with
     |none=>rw[hd] at hg;cases hg
     |some d=>
      rw[hd] at hg
      simp only[Pf,Oy,SV.d.injEq] at hg
      subst hg
      simp only[rd,hxe,hi,hd]
    |_=>rw[hxe] at hx;simp[H5] at hx
   |_=>rw[hxe] at hx;simp[H5] at hx
  ·cases he
end
