/-
  My text.
-/
import Derived.Test.YteaolfcegaidpaaGreatDoorSZEngRq
namespace Go.Proofs.YteaolfcegaidpaaGreatDoor
set_option linter.unusedSimpArgs false
set_option linter.unusedVariables false
open Go.RowKit
variable {R:Type} {dst:Nat} {m n:Int} {x:SX} {r:R}
def uh (n:Int):List DV:=[.int .u32 n]
attribute [push_cast] uh
def Rp (n m:Int):Option Unit:=if 0<=n/\n<=m/\m<=137438953472 then some () else none
theorem DH {u:Unit}:Rp n m=some u↔0<=n/\n<=m/\m<=137438953472:=by unfold Rp;split<;>simp_all
theorem MI {α:Type} (H:α->List DV) (n:Nat) (z:α):List.replicate n (dR (H z))=bG H (List.replicate n z):=by simp[bG]
section
variable {P:Program} {s:Nat->SV} {h:Nat->Ch} {K:St->Prop} {sos:List SO} {α:Type} {H:α->List DV}
theorem PK {kk:Option R} {k1 k2:IntKind} {e sz:Nat} {g:SV} {z:α} {y:SX} (Z:iZ (Rp n m) kk=some r) (hx:ev s x= .d (.int k1 n)) (hy:ev s y= .d (.int k2 m)) (hz:g.cells?=some (dR (H z))) (I:(H z).length=sz) (hk:kk=some r->a6 P K sos ⟨aD (eC dst .any s) dst (.vec dst),aD (hT dst .any h) dst (.vec e sz (bG H (List.replicate n.toNat z)))⟩):a6 P K (.w dst (.mkS e sz g x y)::sos) ⟨s,h⟩:=by
 cases hl:Rp n m with
 |none=>rw[hl] at Z;cases Z
 |some u=>
  rw[hl] at Z
  refine wi (p:=(dR (H z)).length=sz/\0<=n/\n<=m/\m<=137438953472) ?_ ⟨by simpa[dR] using I,DH.1 hl⟩ (hk Z)
  simp only[wr,hz,hx,hy,cZ,St.swap,MI,uM]
end
def wj (k:IntKind):List SV->Option (List Int)
 |[]=>some []
 | .d (.int k' n)::cs=>if k'=k then(wj k cs).map (n:: ·) else none
 |_::_=>none
def K_:SV->Option (List SV)
 | .agg cs=>some cs
 | .d (.agg O)=>some (O.map .d)
 |_=>none
theorem FC {k:IntKind}:∀ {cs:List SV} {l:List Int} {i:Nat} {n:Int},wj k cs=some l->l[i]?=some n->cs[i]?=some (.d (.int k n))
 |[],l,i,n,h,hl=>by simp only[wj,SN] at h;subst h;simp at hl
 |c::cs,l,i,n,h,hl=>by
  unfold wj at h
  split at h
  ·rename_i B;cases B
  ·rename_i k' m V B
   simp only[TA] at B
   obtain⟨rfl,rfl⟩:=B
   split at h
   ·rename_i hk;subst hk
    cases hr:wj k' cs with
    |none=>rw[hr] at h;cases h
    |some l'=>
     rw[hr] at h
     simp only[TL,SN] at h
     subst h
     cases i with
     |zero=>simp at hl⊢;exact hl
     |succ i=>simp only[TS] at hl⊢;exact FC hr hl
   ·cases h
  ·cases h
theorem FD {k:IntKind}:∀ {cs:List SV} {l:List Int},wj k cs=some l->l.length=cs.length
 |[],l,h=>by simp only[wj,SN] at h;subst h;rfl
 |c::cs,l,h=>by
  unfold wj at h
  split at h
  ·rename_i B;cases B
  ·rename_i k' m V B
   simp only[TA] at B
   obtain⟨rfl,rfl⟩:=B
   split at h
   ·rename_i hk;subst hk
    cases hr:wj k' cs with
    |none=>rw[hr] at h;cases h
    |some l'=>
     rw[hr] at h
     simp only[TL,SN] at h
     subst h
     simp[FD hr]
   ·cases h
  ·cases h
section
variable {P:Program} {s:Nat->SV} {h:Nat->Ch} {K:St->Prop} {sos:List SO}
theorem Qk {l:List Int} {cs:List SV} {i:SX} {k L:IntKind} {len:Nat} {kk:Int->Option R} (Z:(cm l n).bind kk=some r) (hx:K_ (ev s x)=some cs) (hc:wj k cs=some l) (hl:cs.length=len) (hi:ev s i= .d (.int L n)) (hk:∀ e,kk e=some r->a6 P K sos ⟨aD s dst (.d (.int k e)),h⟩):a6 P K (.r dst (.vidx len x i)::sos) ⟨s,h⟩:=by
 cases J:cm l n with
 |none=>rw[J] at Z;cases Z
 |some e=>
  rw[J] at Z
  unfold cm at J
  split at J
  ·rename_i h0
   have hg:=FC hc J
   have h9:n<len:=by
    have:=(SY.1 J).1
    rw[FD hc,hl] at this;omega
   refine fi (p:=0<=n/\n<len) (v:= .d (.int k e)) ?_ ⟨h0,h9⟩ (hk e Z)
   cases U:ev s x with
   |agg V=>rw[U] at hx;simp only[K_,SN] at hx;subst hx;simp only[rd,U,hi,hg]
   |d v=>
    cases v with
    |agg O=>
     rw[U] at hx;simp only[K_,SN] at hx;subst hx
     rw[Tk] at hg
     cases hd:O[n.toNat]? with
     |none=>rw[hd] at hg;cases hg
     |some d=>
      rw[hd] at hg
      simp only[TL,SN,SV.d.injEq] at hg
      subst hg
      simp only[rd,U,hi,hd]
    |_=>rw[U] at hx;simp[K_] at hx
   |_=>rw[U] at hx;simp[K_] at hx
  ·cases J
end
