/-
  My text.
-/
import Derived.Test.YteaolfcegaidpaaGreatDoorSXEngRq
namespace Go.Proofs.YteaolfcegaidpaaGreatDoor
set_option linter.unusedSimpArgs false
set_option linter.unusedVariables false
open Go.RowKit
def qU (n:Int):List DV:=[.int .u32 n]
attribute [push_cast] qU
def KZ (n m:Int):Option Unit:=if 0<=n/\n<=m/\m<=137438953472 then some () else none
theorem wI {n m:Int} {u:Unit}:KZ n m=some u↔0<=n/\n<=m/\m<=137438953472:=by unfold KZ;split<;>simp_all
theorem HK {α:Type} (row:α->List DV) (n:Nat) (z:α):List.replicate n (dR (row z))=cm row (List.replicate n z):=by simp[cm]
section
variable {P:Program} {s:Nat->SV} {h:Nat->Ch} {K:St->Prop} {sos:List SO} {α:Type} {row:α->List DV}
theorem HL {R:Type} {r:R} {kk:Option R} {n m:Int} {k1 k2:IntKind} {dst e sz:Nat} {zv:SV} {z:α} {x y:SX} (hm:lS (KZ n m) kk=some r) (hx:ev s x= .d (.int k1 n)) (hy:ev s y= .d (.int k2 m)) (hz:zv.cells?=some (dR (row z))) (hsz:(row z).length=sz)
  (hk:kk=some r->ba P K sos ⟨ay (eF dst .any s) dst (.vec dst),ay (jz dst .any h) dst (.vec e sz (cm row (List.replicate n.toNat z)))⟩):ba P K (.w dst (.mkS e sz zv x y)::sos) ⟨s,h⟩:=by
 cases hl:KZ n m with
 |none=>rw[hl] at hm;cases hm
 |some u=>
  rw[hl] at hm
  refine uU (p:=(dR (row z)).length=sz/\0<=n/\n<=m/\m<=137438953472) ?_ ⟨by simpa[dR] using hsz,wI.1 hl⟩ (hk hm)
  simp only[wr,hz,hx,hy,cf,St.swap,HK,rj]
end
def su (k:IntKind):List SV->Option (List Int)
 |[]=>some []
 | .d (.int k' n)::cs=>if k'=k then(su k cs).map (n:: ·) else none
 |_::_=>none
def Gp:SV->Option (List SV)
 | .agg cs=>some cs
 | .d (.agg ds)=>some (ds.map .d)
 |_=>none
theorem Bv {k:IntKind}:∀ {cs:List SV} {l:List Int} {i:Nat} {n:Int},su k cs=some l->l[i]?=some n->cs[i]?=some (.d (.int k n))
 |[],l,i,n,h,hl=>by simp only[su,L7] at h;subst h;simp at hl
 |c::cs,l,i,n,h,hl=>by
  unfold su at h
  split at h
  ·rename_i heq;cases heq
  ·rename_i k' m cs' heq
   simp only[MG] at heq
   obtain⟨rfl,rfl⟩:=heq
   split at h
   ·rename_i hk;subst hk
    cases hr:su k' cs with
    |none=>rw[hr] at h;cases h
    |some l'=>
     rw[hr] at h
     simp only[MS,L7] at h
     subst h
     cases i with
     |zero=>simp at hl⊢;exact hl
     |succ i=>simp only[M1] at hl⊢;exact Bv hr hl
   ·cases h
  ·cases h
theorem Bw {k:IntKind}:∀ {cs:List SV} {l:List Int},su k cs=some l->l.length=cs.length
 |[],l,h=>by simp only[su,L7] at h;subst h;rfl
 |c::cs,l,h=>by
  unfold su at h
  split at h
  ·rename_i heq;cases heq
  ·rename_i k' m cs' heq
   simp only[MG] at heq
   obtain⟨rfl,rfl⟩:=heq
   split at h
   ·rename_i hk;subst hk
    cases hr:su k' cs with
    |none=>rw[hr] at h;cases h
    |some l'=>
     rw[hr] at h
     simp only[MS,L7] at h
     subst h
     simp[Bw hr]
   ·cases h
  ·cases h
section
variable {P:Program} {s:Nat->SV} {h:Nat->Ch} {K:St->Prop} {sos:List SO}
theorem Kq {R:Type} {r:R} {l:List Int} {cs:List SV} {n:Int} {x i:SX} {k ki:IntKind} {dst len:Nat} {kk:Int->Option R} (hm:(b_ l n).bind kk=some r) (hx:Gp (ev s x)=some cs) (hc:su k cs=some l) (hl:cs.length=len) (hi:ev s i= .d (.int ki n))
  (hk:∀ e,kk e=some r->ba P K sos ⟨ay s dst (.d (.int k e)),h⟩):ba P K (.r dst (.vidx len x i)::sos) ⟨s,h⟩:=by
 cases he:b_ l n with
 |none=>rw[he] at hm;cases hm
 |some e=>
  rw[he] at hm
  unfold b_ at he
  split at he
  ·rename_i h0
   have hg:=Bv hc he
   have hlt:n<len:=by
    have:=(Md.1 he).1
    rw[Bw hc,hl] at this;omega
   refine iE (p:=0<=n/\n<len) (v:= .d (.int k e)) ?_ ⟨h0,hlt⟩ (hk e hm)
   cases hxe:ev s x with
   |agg cs'=>rw[hxe] at hx;simp only[Gp,L7] at hx;subst hx;simp only[rd,hxe,hi,hg]
   |d v=>
    cases v with
    |agg ds=>
     rw[hxe] at hx;simp only[Gp,L7] at hx;subst hx
     rw[MH] at hg
     cases hd:ds[n.toNat]? with
     |none=>rw[hd] at hg;cases hg
     |some d=>
      rw[hd] at hg
      simp only[MS,L7,SV.d.injEq] at hg
      subst hg
      simp only[rd,hxe,hi,hd]
    |_=>rw[hxe] at hx;simp[Gp] at hx
   |_=>rw[hxe] at hx;simp[Gp] at hx
  ·cases he
end
