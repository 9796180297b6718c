/-
  My text.
-/
import Derived.Test.YtgocgdgknpdknaaGreatDoorSXEngRq
namespace Go.Proofs.YtgocgdgknpdknaaGreatDoor
set_option linter.unusedSimpArgs false
set_option linter.unusedVariables false
open Go.RowKit
def o9 (n:Int):List DV:=[.int .u32 n]
attribute [push_cast] o9
def IO (n m:Int):Option Unit:=if 0<=n/\n<=m/\m<=137438953472 then some () else none
theorem xG {n m:Int} {u:Unit}:IO n m=some u↔0<=n/\n<=m/\m<=137438953472:=by unfold IO;split<;>simp_all
theorem Fk {α:Type} (row:α->List DV) (n:Nat) (z:α):List.replicate n (dR (row z))=eg row (List.replicate n z):=by simp[eg]
section
variable {P:Program} {s:Nat->SV} {h:Nat->Ch} {K:St->Prop} {sos:List SO} {α:Type} {row:α->List DV}
theorem Hv {R:Type} {r:R} {kk:Option R} {n m:Int} {k1 k2:IntKind} {dst e sz:Nat} {zv:SV} {z:α} {x y:SX} (hm:jg (IO n m) kk=some r) (hx:ev s x= .d (.int k1 n)) (hy:ev s y= .d (.int k2 m)) (hz:zv.cells?=some (dR (row z))) (hsz:(row z).length=sz)
  (hk:kk=some r->aR P K sos ⟨aI (gE dst .any s) dst (.vec dst),aI (pU dst .any h) dst (.vec e sz (eg row (List.replicate n.toNat z)))⟩):aR P K (.w dst (.mkS e sz zv x y)::sos) ⟨s,h⟩:=by
 cases hl:IO n m with
 |none=>rw[hl] at hm;cases hm
 |some u=>
  rw[hl] at hm
  refine tQ (p:=(dR (row z)).length=sz/\0<=n/\n<=m/\m<=137438953472) ?_ ⟨by simpa[dR] using hsz,xG.1 hl⟩ (hk hm)
  simp only[wr,hz,hx,hy,bS,St.swap,Fk,sx]
end
def qg (k:IntKind):List SV->Option (List Int)
 |[]=>some []
 | .d (.int k' n)::cs=>if k'=k then(qg k cs).map (n:: ·) else none
 |_::_=>none
def D2:SV->Option (List SV)
 | .agg cs=>some cs
 | .d (.agg ds)=>some (ds.map .d)
 |_=>none
theorem y5 {k:IntKind}:∀ {cs:List SV} {l:List Int} {i:Nat} {n:Int},qg k cs=some l->l[i]?=some n->cs[i]?=some (.d (.int k n))
 |[],l,i,n,h,hl=>by simp only[qg,JN] at h;subst h;simp at hl
 |c::cs,l,i,n,h,hl=>by
  unfold qg at h
  split at h
  ·rename_i heq;cases heq
  ·rename_i k' m cs' heq
   simp only[Km] at heq
   obtain⟨rfl,rfl⟩:=heq
   split at h
   ·rename_i hk;subst hk
    cases hr:qg k' cs with
    |none=>rw[hr] at h;cases h
    |some l'=>
     rw[hr] at h
     simp only[Ku,JN] at h
     subst h
     cases i with
     |zero=>simp at hl⊢;exact hl
     |succ i=>simp only[Kq] at hl⊢;exact y5 hr hl
   ·cases h
  ·cases h
theorem y6 {k:IntKind}:∀ {cs:List SV} {l:List Int},qg k cs=some l->l.length=cs.length
 |[],l,h=>by simp only[qg,JN] at h;subst h;rfl
 |c::cs,l,h=>by
  unfold qg at h
  split at h
  ·rename_i heq;cases heq
  ·rename_i k' m cs' heq
   simp only[Km] at heq
   obtain⟨rfl,rfl⟩:=heq
   split at h
   ·rename_i hk;subst hk
    cases hr:qg k' cs with
    |none=>rw[hr] at h;cases h
    |some l'=>
     rw[hr] at h
     simp only[Ku,JN] at h
     subst h
     simp[y6 hr]
   ·cases h
  ·cases h
section
variable {P:Program} {s:Nat->SV} {h:Nat->Ch} {K:St->Prop} {sos:List SO}
theorem H3 {R:Type} {r:R} {l:List Int} {cs:List SV} {n:Int} {x i:SX} {k ki:IntKind} {dst len:Nat} {kk:Int->Option R} (hm:(cx l n).bind kk=some r) (hx:D2 (ev s x)=some cs) (hc:qg k cs=some l) (hl:cs.length=len) (hi:ev s i= .d (.int ki n))
  (hk:∀ e,kk e=some r->aR P K sos ⟨aI s dst (.d (.int k e)),h⟩):aR P K (.r dst (.vidx len x i)::sos) ⟨s,h⟩:=by
 cases he:cx l n with
 |none=>rw[he] at hm;cases hm
 |some e=>
  rw[he] at hm
  unfold cx at he
  split at he
  ·rename_i h0
   have hg:=y5 hc he
   have hlt:n<len:=by
    have:=(JY.1 he).1
    rw[y6 hc,hl] at this;omega
   refine iN (p:=0<=n/\n<len) (v:= .d (.int k e)) ?_ ⟨h0,hlt⟩ (hk e hm)
   cases hxe:ev s x with
   |agg cs'=>rw[hxe] at hx;simp only[D2,JN] at hx;subst hx;simp only[rd,hxe,hi,hg]
   |d v=>
    cases v with
    |agg ds=>
     rw[hxe] at hx;simp only[D2,JN] at hx;subst hx
     rw[Kh] at hg
     cases hd:ds[n.toNat]? with
     |none=>rw[hd] at hg;cases hg
     |some d=>
      rw[hd] at hg
      simp only[Ku,JN,SV.d.injEq] at hg
      subst hg
      simp only[rd,hxe,hi,hd]
    |_=>rw[hxe] at hx;simp[D2] at hx
   |_=>rw[hxe] at hx;simp[D2] at hx
  ·cases he
end
