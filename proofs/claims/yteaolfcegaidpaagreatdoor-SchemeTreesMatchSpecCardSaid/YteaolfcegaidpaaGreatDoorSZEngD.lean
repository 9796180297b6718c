/-
  My text.
-/
import Derived.Test.YteaolfcegaidpaaGreatDoorSZEngC
namespace Go.Proofs.YteaolfcegaidpaaGreatDoor
set_option linter.unusedSimpArgs false
set_option linter.unusedVariables false
open Go.RowKit
inductive SX where
 |t (n:Nat)
 |c (v:SV)
 |f (id:FuncId)
variable {v:Value} {x:SV}
def ev (s:Nat->SV):SX->SV
 | .t n=>s n
 | .c v=>v
 | .f id=> .d (.fn id [])
def zL:Value->SV->Bool
 | .int k n,.d (.int k' n')=>k==k'&&n==n'
 | .bool b,.d (.bool b')=>b==b'
 | .string s,.d (.str l)=>s.data.toList==l
 | .slice none 0 0,.nils=>true
 | .nilIface,.d (.raw .nilIface)=>true
 | .nilFunc,.d (.raw .nilFunc)=>true
 | .pointer none,.d (.raw (.pointer none))=>true
 | .map none,.d (.raw (.map none))=>true
 |_,_=>false
def mi:List Value->List SV->Bool
 |[],[]=>true
 |v::vs,x::xs=>zL v x&&mi vs xs
 |_,_=>false
def rv:Value->SV->Bool
 | .agg vs,.agg xs=>mi vs.toList xs
 |v,x=>zL v x
section
variable {w:World} {M:Nat->Prop} {κ:Nat->Value}
theorem zM (h:zL v x=true):ah w M κ x v/\v.oneCell'=true:=by
 unfold zL at h
 split at h<;>simp at h<;>simp[ah,ba,Value.oneCell',h]
 rename_i s l
 obtain⟨⟨a⟩⟩:=s
 subst h
 rfl
theorem rx:∀ {vs:List Value} {xs:List SV},mi vs xs=true->an w M κ xs vs/\∀ u∈vs,u.oneCell'=true
 |[],[],_=>by simp[an]
 |v::vs,x::xs,h=>by
  simp only[mi,SR] at h
  obtain⟨h1,h2⟩:=zM (w:=w) (M:=M) (κ:=κ) h.1
  obtain⟨E,h4⟩:=rx h.2
  simp only[an]
  exact⟨⟨v,vs,rfl,h1,E⟩,by simpa using⟨h2,h4⟩⟩
 |[],_::_,h=>by simp[mi] at h
 |_::_,[],h=>by simp[mi] at h
theorem pM (h:rv v x=true):ah w M κ x v:=by
 unfold rv at h
 split at h
 ·obtain⟨h1,h2⟩:=rx (w:=w) (M:=M) (κ:=κ) h
  simp only[ah]
  exact⟨_,by simp,h2,h1⟩
 ·exact(zM h).1
end
def aG (N:Nat):Operand->SX->Bool
 | .tmp t,.t n=>t==n&&decide (n<N)
 | .const v,.c x=>rv v x
 | .func f,.f g=>f==g
 |_,_=>false
def lC (N:Nat):List Operand->List SX->Bool
 |[],[]=>true
 |x::xs,y::ys=>aG N x y&&lC N xs ys
 |_,_=>false
theorem am {c:Cx} {σ:St} {κ:Nat->Value} {φ:Nat->List Nat} {a:Act} {w:World} (hr:cH c σ κ φ a w) {x:Operand} {y:SX} (h:aG c.N x y=true):
  ah w (own c φ) κ (ev σ.s y) (a.eval x):=by
 unfold aG at h
 split at h
 ·simp at h
  obtain⟨rfl,hn⟩:=h
  exact hr.slots _ hn
 ·exact pM h
 ·simp at h
  subst h
  simp only[ev,ah,ba,Act.eval,aN]
  exact⟨[],rfl,rfl⟩
 ·simp at h
theorem jq {c:Cx} {σ:St} {κ:Nat->Value} {φ:Nat->List Nat} {a:Act} {w:World} (hr:cH c σ κ φ a w):∀ {xs:List Operand} {ys:List SX},lC c.N xs ys=true->
  an w (own c φ) κ (ys.map (ev σ.s)) (xs.map a.eval)
 |[],[],_=>by simp[an]
 |x::xs,y::ys,h=>by
  simp only[lC,SR] at h
  simp only[S5,an]
  exact⟨_,_,rfl,am hr h.1,jq hr h.2⟩
 |[],_::_,h=>by simp[lC] at h
 |_::_,[],h=>by simp[lC] at h
mutual
def SV.firm:SV->Bool
 | .d v=>match v with| .any=>false|_=>true
 | .nils=>true
 | .lit _ _ cs=>SV.firms cs
 | .agg cs=>SV.firms cs
 |_=>false
def SV.firms:List SV->Bool
 |[]=>true
 |c::cs=>SV.firm c&&SV.firms cs
end
def C2:List SV->Option (List Nat)
 |[]=>some []
 | .ref id 0::cs=>match C2 cs with|some l=>some (id::l)|none=>none
 |_::_=>none
def nQ (s:Nat->SV):List Nat->Bool
 |[]=>true
 |n::l=>(s n).firm&&nQ s l
inductive wh where
 |mv (x:SX)
 |pick (c a b:SX)
 |boxI (x:SX)
 |ld1 (x:SX)
 |ldA (n:Nat) (x:SX)
 |fld (off:Nat) (x:SX)
 |prt1 (off:Nat) (x:SX)
 |prtA (off n:Nat) (x:SX)
 |idx (sz:Nat) (x i:SX)
 |sidx (x i:SX)
 |vidx (n:Nat) (x i:SX)
 |vidxA (n w:Nat) (x i:SX)
 |bin (op:BinOp) (x y:SX)
 |binB (op:BinOp) (x y:SX)
 |binI (op:BinOp) (x y:SX)
 |binP (op:BinOp) (x y:SX)
 |not (x:SX)
 |neg (x:SX)
 |cvi (k:IntKind) (x:SX)
 |ext (x:SX) (i:Nat)
 |len (x:SX)
 |lenT (x:SX)
 |lenM (x:SX)
 |mins (x:SX) (xs:List SX)
 |maxs (x:SX) (xs:List SX)
 |mkfn (f:FuncId) (caps:List SX)
 |build (zs:List SV) (ps:List (Nat×Nat×SX))
 |bslice (sz:Nat) (xs:List SX)
 |slc (sz:Nat) (x:SX) (lo hi:Option SX)
 |sslc (x:SX) (lo hi:Option SX)
 |look (kk:KK) (z:SV) (ok:Bool) (m k:SX)
 |eqs (op:BinOp) (kks:List KK) (x y:SX)
 |nilc (x:SX)
 |aidx (sz n:Nat) (x i:SX)
 |slcP (n:Nat) (x lo:SX)
 |slc3 (sz:Nat) (x:SX) (lo:Option SX) (hi mx:SX)
 |cvis (x:SX)
 |cvbs (x:SX)
 |cvsb (x:SX)
 |cl (t:Nat) (ts:List Nat)
 |gd (t:Nat) (want:Bool) (op:wh)
def Hl (op:BinOp) (k:IntKind) (a b:Int):Int:=
 let x:=BitVec.ofInt k.bits a
 let y:=BitVec.ofInt k.bits b
 k.wrap (match op with| .and=>(x&&&y).toNat| .or=>(x|||y).toNat|_=>(x ^^^ y).toNat)
def wO (op:BinOp) (k:IntKind) (a b:Int):Option (Prop×DV):=
 match op with
 | .add=>some (True,.int k (k.wrap (a+b)))
 | .sub=>some (True,.int k (k.wrap (a - b)))
 | .mul=>some (True,.int k (k.wrap (a * b)))
 | .quo=>some (b≠0,.int k (k.wrap (a.tdiv b)))
 | .rem=>some (b≠0,.int k (a.tmod b))
 | .and=>some (True,.int k (Hl .and k a b))
 | .or=>some (True,.int k (Hl .or k a b))
 | .xor=>some (True,.int k (Hl .xor k a b))
 | .shr=>some (0<=b/\b<=k.bits,.int k (a/2^b.toNat))
 | .shl=>some (0<=b/\b<=k.bits,.int k (k.wrap (a * 2^b.toNat)))
 | .eql=>some (True,.bool (decide (a=b)))
 | .neq=>some (True,.bool (decide (a≠b)))
 | .lss=>some (True,.bool (decide (a<b)))
 | .leq=>some (True,.bool (decide (a<=b)))
 | .gtr=>some (True,.bool (decide (b<a)))
 | .geq=>some (True,.bool (decide (b<=a)))
 |_=>none
def JF (op:BinOp) (a b:List UInt8):Option (Prop×DV):=
 match op with
 | .add=>some (a.length+b.length<=1000000000000,.str (a++b))
 | .eql=>some (True,.bool (decide (a=b)))
 | .neq=>some (True,.bool (decide (a≠b)))
 | .lss=>some (True,.bool (Op.bytesLess a b))
 | .leq=>some (True,.bool (Op.bytesLess a b||decide (a=b)))
 | .gtr=>some (True,.bool (!(Op.bytesLess a b||decide (a=b))))
 | .geq=>some (True,.bool (!Op.bytesLess a b))
 |_=>none
def zN (op:BinOp):DV->DV->Option (Prop×DV)
 | .int k a,.int k' b=>if k=k' then wO op k a b else match op with| .shr=>wO .shr k a b| .shl=>wO .shl k a b|_=>none
 | .str a,.str b=>JF op a b
 | .bool a,.bool b=>match op with
  | .eql=>some (True,.bool (decide (a=b)))
  | .neq=>some (True,.bool (decide (a≠b)))
  |_=>none
 | .raw .nilIface,.raw .nilIface=>match op with
  | .eql=>some (True,.bool true)
  | .neq=>some (True,.bool false)
  |_=>none
 | .err,.raw .nilIface=>match op with
  | .eql=>some (True,.bool false)
  | .neq=>some (True,.bool true)
  |_=>none
 |_,_=>none
def vh:Int->List DV->Option Int
 |a,[]=>some a
 |a,.int .i64 b::r=>vh (if b<a then b else a) r
 |_,_=>none
def vi:Int->List DV->Option Int
 |a,[]=>some a
 |a,.int .i64 b::r=>vi (if b>a then b else a) r
 |_,_=>none
def BK:List SV->List (Nat×Nat×SV)->Option (List SV)
 |zs,[]=>some zs
 |zs,(off,n,x)::ps=>match x.cells? with
  |some cs=>if cs.length=n/\off+n<=zs.length then BK (zs.take off++cs++zs.drop (off+n)) ps else none
  |none=>none
def JG (x:SV):Option (List DV):=match x.toDV with|some d=>d.cells?|none=>none
def kQ (sz:Nat):List SV->Option (List SV)
 |[]=>some []
 |x::xs=>match x.cells?,kQ sz xs with
  |some r,some rs=>if r.length=sz then some (r++rs) else none
  |_,_=>none
def zO:DV->DV->Bool
 | .int k a,.int k' b=>decide (k=k')&&decide (a=b)
 | .str a,.str b=>decide (a=b)
 | .bool a,.bool b=>decide (a=b)
 |_,_=>false
def oR {α:Type}:List (DV×α)->DV->Option α
 |[],_=>none
 |(k,d)::kv,x=>if zO x k then some d else oR kv x
def nR {α:Type}:List (DV×α)->DV->α->List (DV×α)
 |[],x,d=>[(x,d)]
 |(k,e)::kv,x,d=>if zO x k then(x,d)::kv else(k,e)::nR kv x d
def oU (kv:List (DV×SV)) (x:DV) (z:SV):SV:=(oR kv x).getD z
def C3 (kv:List (DV×SV)) (x:DV):Bool:=(oR kv x).isSome
def ry:KK->DV->DV->Option Bool
 | .str,.str a,.str b=>some (decide (a=b))
 | .int k,.int k1 a,.int k2 b=>if k1=k/\k2=k then some (decide (a=b)) else none
 | .bool,.bool a,.bool b=>some (decide (a=b))
 |_,_,_=>none
def cD:List KK->List DV->List DV->Option Bool
 |[],[],[]=>some true
 |k::ks,a::as,b::bs=>match ry k a b,cD ks as bs with|some p,some q=>some (p&&q)|_,_=>none
 |_,_,_=>none
def Hf (s:Nat->SV):Option SX->Option (Option Int)
 |none=>some none
 |some x=>match ev s x with| .d (.int _ n)=>some (some n)|_=>none
def vj:List SV->Option (List UInt8)
 |[]=>some []
 | .d (.int .u8 n)::r=>if 0<=n/\n<256 then(match vj r with|some l=>some (UInt8.ofNat n.toNat::l)|none=>none) else none
 |_=>none
def vk:List (List DV)->Option (List UInt8)
 |[]=>some []
 |[.int .u8 n]::r=>if 0<=n/\n<256 then(match vk r with|some l=>some (UInt8.ofNat n.toNat::l)|none=>none) else none
 |_=>none
def rd (h:Nat->Ch) (s:Nat->SV):wh->Option (Prop×SV)
 | .mv x=>some (True,ev s x)
 | .pick c a b=>match ev s c with
  | .d (.bool true)=>some (True,ev s a)
  | .d (.bool false)=>some (True,ev s b)
  |_=>none
 | .boxI x=>match JG (ev s x) with
  |some cs=>some (True,.d (.ptr cs))
  |none=>none
 | .ld1 x=>match ev s x with
  | .d (.ptr (c::_))=>some (True,.d c)
  | .ref id off=>match h id with
   | .box cs=>match cs[off]? with|some c=>if c.noOwn then some (True,c) else none|none=>none
   |_=>none
  | .vref id sz i off=>match h id with
   | .vec _ N rows=>match rows[i]? with
    |some r=>match r[off]? with|some c=>if c.noOwn then some (N=sz,c) else none|none=>none
    |none=>none
   |_=>none
  |_=>none
 | .ldA n x=>match ev s x with
  | .d (.ptr cs)=>some (n<=cs.length,.d (.agg (cs.take n)))
  | .ref id off=>match h id with
   | .box cs=>if SV.noOwns ((cs.drop off).take n) then some (off+n<=cs.length,.agg ((cs.drop off).take n)) else none
   |_=>none
  | .vref id sz i off=>match h id with
   | .vec _ N rows=>match rows[i]? with
    |some r=>if SV.noOwns ((r.drop off).take n) then some (N=sz/\off+n<=r.length,.agg ((r.drop off).take n)) else none
    |none=>none
   |_=>none
  |_=>none
 | .fld off x=>match ev s x with
  | .d (.ptr cs)=>some (True,.d (.ptr (cs.drop off)))
  | .ref id o=>some (True,.ref id (o+off))
  | .vref id sz i o=>some (True,.vref id sz i (o+off))
  |_=>none
 | .vidx n x i=>match ev s x,ev s i with
  | .d (.agg cs),.d (.int _ k)=>match cs[k.toNat]? with|some c=>some (0<=k/\k<n,.d c)|none=>none
  | .agg cs,.d (.int _ k)=>match cs[k.toNat]? with|some c=>some (0<=k/\k<n,c)|none=>none
  |_,_=>none
 | .vidxA n w x i=>match ev s x,ev s i with
  | .d (.agg cs),.d (.int _ k)=>some (0<=k/\k<n,.d (.agg ((cs.drop (k.toNat * w)).take w)))
  | .agg cs,.d (.int _ k)=>match SV.toDVs ((cs.drop (k.toNat * w)).take w) with|some xs=>some (0<=k/\k<n,.d (.agg xs))|none=>none
  |_,_=>none
 | .prt1 off x=>match ev s x with
  | .d (.agg cs)=>match cs[off]? with|some c=>some (True,.d c)|none=>none
  | .agg cs=>match cs[off]? with|some c=>some (True,c)|none=>none
  |_=>none
 | .prtA off n x=>match ev s x with
  | .d (.agg cs)=>some (off+n<=cs.length,.d (.agg ((cs.drop off).take n)))
  | .agg cs=>some (off+n<=cs.length,.agg ((cs.drop off).take n))
  |_=>none
 | .idx sz x i=>match ev s i with
  | .d (.int _ n)=>match ev s x with
   | .d (.slice rows)=>match rows[n.toNat]? with
    |some r=>some (0<=n/\r.length=sz,.d (.ptr r))
    |none=>none
   | .lit N k cs=>match SV.toDVs cs with
    |some O=>match(fN N k O)[n.toNat]? with
     |some r=>some (0<=n/\r.length=sz,.d (.ptr r))
     |none=>none
    |none=>none
   | .vec id=>match h id with
    | .vec _ N rows=>some (0<=n/\n<rows.length/\N=sz,.vref id sz n.toNat 0)
    |_=>none
   |_=>none
  |_=>none
 | .sidx x i=>match ev s x,ev s i with
  | .d (.str l),.d (.int _ n)=>match l[n.toNat]? with
   |some c=>some (0<=n,.d (.int .u8 c.toNat))
   |none=>none
  |_,_=>none
 | .bin op x y=>match ev s x,ev s y with
  | .d (.int k a),.d (.int k' b)=>match zN op (.int k a) (.int k' b) with|some (p,r)=>some (p,.d r)|none=>none
  | .d (.str a),.d (.str b)=>match zN op (.str a) (.str b) with|some (p,r)=>some (p,.d r)|none=>none
  |_,_=>none
 | .binB op x y=>match ev s x,ev s y with
  | .d (.bool a),.d (.bool b)=>match zN op (.bool a) (.bool b) with|some (p,r)=>some (p,.d r)|none=>none
  |_,_=>none
 | .binI op x y=>match ev s x,ev s y with
  | .d (.raw .nilIface),.d (.raw .nilIface)=>match zN op (.raw .nilIface) (.raw .nilIface) with|some (p,r)=>some (p,.d r)|none=>none
  | .d .err,.d (.raw .nilIface)=>match zN op .err (.raw .nilIface) with|some (p,r)=>some (p,.d r)|none=>none
  |_,_=>none
 | .binP op x y=>match ev s y with
  | .d (.raw (.pointer none))=>match op with
   | .eql=>match ev s x with
    | .ref _ _=>some (True,.d (.bool false))
    | .vref _ _ _ _=>some (True,.d (.bool false))
    | .d (.raw (.pointer none))=>some (True,.d (.bool true))
    |_=>none
   |_=>none
  |_=>none
 | .not x=>match ev s x with| .d (.bool b)=>some (True,.d (.bool !b))|_=>none
 | .neg x=>match ev s x with| .d (.int k n)=>some (True,.d (.int k (k.wrap (0 - n))))|_=>none
 | .cvi k x=>match ev s x with| .d (.int _ n)=>some (True,.d (.int k (k.wrap n)))|_=>none
 | .ext x i=>match ev s x with
  | .d (.tup cs)=>match cs[i]? with|some c=>some (True,.d c)|none=>none
  | .tup cs=>match cs[i]? with|some c=>some (True,c)|none=>none
  |_=>none
 | .len x=>match ev s x with
  | .d (.slice rows)=>some (True,.d (.int .i64 rows.length))
  | .nils=>some (True,.d (.int .i64 0))
  | .lit _ n _=>some (True,.d (.int .i64 n))
  | .vec id=>match h id with| .vec _ _ rows=>some (True,.d (.int .i64 rows.length))|_=>none
  |_=>none
 | .lenT x=>match ev s x with
  | .d (.str l)=>some (True,.d (.int .i64 l.length))
  |_=>none
 | .lenM x=>match ev s x with
  | .mp id=>match h id with| .map _ kv=>some (True,.d (.int .i64 kv.length))|_=>none
  |_=>none
 | .mins x xs=>match ev s x,SV.toDVs (xs.map (ev s)) with
  | .d (.int .i64 a),some l=>match vh a l with|some r=>some (True,.d (.int .i64 r))|none=>none
  |_,_=>none
 | .maxs x xs=>match ev s x,SV.toDVs (xs.map (ev s)) with
  | .d (.int .i64 a),some l=>match vi a l with|some r=>some (True,.d (.int .i64 r))|none=>none
  |_,_=>none
 | .mkfn f caps=>match SV.toDVs (caps.map (ev s)) with
  |some l=>some (True,.d (.fn f l))
  |none=>match C2 (caps.map (ev s)) with
   |some ids=>some (True,.clo f ids)
   |none=>none
 | .build zs ps=>match BK zs (ps.map fun p=>(p.1,p.2.1,ev s p.2.2)) with
  |some cs=>some (True,.agg cs)
  |none=>none
 | .bslice sz xs=>match kQ sz (xs.map (ev s)) with
  |some cs=>some (True,.lit sz xs.length cs)
  |none=>none
 | .slc sz x lo hi=>match ev s x,Hf s lo,Hf s hi with
  | .d (.slice rows),some l,some h=>some ((∀ r∈rows,r.length=sz)/\0<=l.getD 0/\l.getD 0<=h.getD rows.length/\h.getD rows.length<=rows.length,.d (.slice ((rows.take (h.getD rows.length).toNat).drop (l.getD 0).toNat)))
  | .lit N k cs,some l,some h=>match SV.toDVs cs with
   |some O=>some (N=sz/\0<=l.getD 0/\l.getD 0<=h.getD k/\h.getD k<=k,.d (.slice (((fN sz k O).take (h.getD k).toNat).drop (l.getD 0).toNat)))
   |none=>none
  | .nils,some l,some h=>some (l.getD 0=0/\h.getD 0=0,.nils)
  |_,_,_=>none
 | .sslc x lo hi=>match ev s x,Hf s lo,Hf s hi with
  | .d (.str b),some l,some h=>some (0<=l.getD 0/\l.getD 0<=h.getD b.length/\h.getD b.length<=b.length,.d (.str ((b.take (h.getD b.length).toNat).drop (l.getD 0).toNat)))
  |_,_,_=>none
 | .look kk z ok m k=>match ev s m,ev s k with
  | .mp id,.d x=>match h id with
   | .map v4 kv=>some (v4=kk/\kk.fits x=true/\(oU kv x z).noOwn=true,if ok then .tup [oU kv x z,.d (.bool (C3 kv x))] else oU kv x z)
   |_=>none
  | .d (.map ks vs),.d x=>some ((ks.all kk.fits=true/\kk.fits x=true)/\(oU (ks.zip (vs.map .d)) x z).noOwn=true,if ok then .tup [oU (ks.zip (vs.map .d)) x z,.d (.bool (C3 (ks.zip (vs.map .d)) x))] else oU (ks.zip (vs.map .d)) x z)
  |_,_=>none
 | .eqs op kks x y=>match(ev s x).toDV,(ev s y).toDV with
  |some (.agg cs),some (.agg O)=>match cD kks cs O with
   |some b=>match op with
    | .eql=>some (True,.d (.bool b))
    | .neq=>some (True,.d (.bool !b))
    |_=>none
   |none=>none
  |_,_=>none
 | .gd _ _ _=>none
 | .nilc x=>match ev s x with
  | .ref id off=>some (True,.ref id off)
  | .vref id sz i off=>some (True,.vref id sz i off)
  | .d (.ptr cs)=>some (True,.d (.ptr cs))
  |_=>none
 | .aidx sz n x i=>match ev s x,ev s i with
  | .ref id off,.d (.int _ k)=>some (0<=k/\k<n,.ref id (off+k.toNat * sz))
  |_,_=>none
 | .slcP n x lo=>match ev s x,ev s lo with
  | .d (.ptr cs),.d (.int _ k)=>some (cs.length=n/\0<=k/\k<=n,.d (.slice ((cs.drop k.toNat).map fun c=>[c])))
  |_,_=>none
 | .slc3 sz x lo hi mx=>match ev s x,Hf s lo,ev s hi,ev s mx with
  | .d (.slice rows),some l,.d (.int _ h),.d (.int _ m)=>some ((∀ r∈rows,r.length=sz)/\0<=l.getD 0/\l.getD 0<=h/\h<=m/\m<=rows.length,.d (.slice ((rows.take h.toNat).drop (l.getD 0).toNat)))
  |_,_,_,_=>none
 | .cvis x=>match ev s x with
  | .d (.int _ n)=>some (True,.d (.str (Utf8.encode n).data.toList))
  |_=>none
 | .cvbs x=>match ev s x with
  | .d (.slice rows)=>match vk rows with|some l=>some (True,.d (.str l))|none=>none
  | .nils=>some (True,.d (.str []))
  | .lit sz n cs=>match vj cs with|some l=>some (sz=1,.d (.str l))|none=>none
  | .vec id=>match h id with
   | .vec _ sz rows=>match vj rows.flatten with|some l=>some (sz=1,.d (.str l))|none=>none
   |_=>none
  |_=>none
 | .cvsb x=>match ev s x with
  | .d (.str l)=>some (True,.d (.slice (l.map fun b=>[.int .u8 b.toNat])))
  |_=>none
 | .cl t ts=>if nQ s ts=true then some (True,s t) else none
def jF:TypeDesc->Bool
 | .struct _| .array _ _=>true
 |_=>false
def lD (N:Nat):Option Operand->Option SX->Bool
 |none,none=>true
 |some x,some y=>aG N x y
 |_,_=>false
def II (P:Program) (t:TypeId):Bool:=
 match P.underlying t with
 |some .bool=>true
 |_=>false
def Gf (P:Program) (t:TypeId):Bool:=
 match P.underlying t with
 |some (.interface _)=>true
 |_=>false
def L4 (P:Program) (t:TypeId):Bool:=
 match P.underlying t with
 |some (.pointer _)=>true
 |_=>false
def pN:Operand->Bool
 | .const _=>true
 |_=>false
def o0 (P:Program) (N:Nat) (a:Array Field):List (Nat×Operand)->List (Nat×Nat×SX)->Bool
 |[],[]=>true
 |(i,x)::ps,(off,n,y)::qs=>(match a[i]? with|some f=>f.offset==off&&(P.info? f.type).isSome&&P.cellsOf f.type==n|none=>false)&&aG N x y&&o0 P N a ps qs
 |_,_=>false
def ng (N sz:Nat):List (Nat×Operand)->List (Nat×Nat×SX)->Bool
 |[],[]=>true
 |(i,x)::ps,(off,n,y)::qs=>off==i * sz&&n==sz&&aG N x y&&ng N sz ps qs
 |_,_=>false
def o4 (N:Nat):Nat->List (Nat×Operand)->List SX->Bool
 |_,[],[]=>true
 |i,(j,x)::ps,y::qs=>i==j&&aG N x y&&o4 N (i+1) ps qs
 |_,_,_=>false
def EJ (P:Program) (t:TypeId):Option KK:=
 match P.underlying t with
 |some .string=>some .str
 |some (.int k)=>some (.int k)
 |some .bool=>some .bool
 |_=>none
def C4 (P:Program):Nat->List Field->List KK->Bool
 |_,[],[]=>true
 |k,f::fs,kk::kks=>f.offset==k&&f.name != "_" &&EJ P f.type==some kk&&C4 P (k+1) fs kks
 |_,_,_=>false
def BL (P:Program):Nat->List Field->List KK->Bool
 |_,[],[]=>true
 |_,[],_::_=>false
 |k,f::fs,kks=>f.offset==k&&f.name != "_" &&(match P.underlying f.type with
  |some (.struct gs)=> !P.stoodInHeld f.type&&C4 P 0 gs.toList (kks.take gs.size)&&(P.info? f.type).isSome&&P.cellsOf f.type==gs.size&&decide (gs.size<=kks.length)&&BL P (k+gs.size) fs (kks.drop gs.size)
  |_=>(match kks with|kk::j=>EJ P f.type==some kk&&BL P (k+1) fs j|[]=>false))
def Hm (P:Program) (t:TypeId) (z:SV):Bool:=
 match P.info? t with
 |some i=>(match i.zero with
  |some v=>rv v z
  |none=>false)
 |none=>false
def Hn (P:Program) (t:TypeId):SX->Bool
 | .c v=>match P.info? t with|some i=>(match i.zero with|some z=>rv z v|none=>false)|none=>false
 |_=>false
def cr (P:Program) (N:Nat) (op:Op):wh->Bool
 | .mv y=>match op with
  | .move x=>aG N x y
  | .assign x=>aG N x y
  |_=>false
 | .pick c a b=>match op with
  | .pick J a' b'=>aG N J c&&aG N a' a&&aG N b' b
  |_=>false
 | .boxI y=>match op with
  | .box _ x=>aG N x y
  | .alloc t=>Hn P t y
  |_=>false
 | .ld1 y=>match op with
  | .load t x=>aG N x y&&(match P.underlying t with|some d=> !jF d|none=>false)
  |_=>false
 | .ldA n y=>match op with
  | .load t x=>aG N x y&&(match P.underlying t with|some d=>jF d|none=>false)&&(P.info? t).isSome&&P.cellsOf t==n
  |_=>false
 | .fld off y=>match op with
  | .fieldAddr t x i=>aG N x y&&(match P.underlying t with|some (.struct fs)=>(match fs[i]? with|some f=>f.offset==off&&(P.info? f.type).isSome&&P.cellsOf f.type !=0|none=>false)|_=>false)
  |_=>false
 | .vidx n y j=>match op with
  | .index t x i=>aG N x y&&aG N i j&&(match P.underlying t with|some (.array len e)=>len==n&&(P.info? e).isSome&&P.cellsOf e==1&&(match P.underlying e with|some d=> !jF d|none=>false)|_=>false)
  |_=>false
 | .vidxA n w y j=>match op with
  | .index t x i=>aG N x y&&aG N i j&&(match P.underlying t with|some (.array len e)=>len==n&&(P.info? e).isSome&&P.cellsOf e==w&&(match P.underlying e with|some d=>jF d|none=>false)|_=>false)
  |_=>false
 | .prt1 off y=>match op with
  | .field t x i=>aG N x y&&(match P.underlying t with|some (.struct fs)=>(match fs[i]? with|some f=>f.offset==off&&(match P.underlying f.type with|some d=> !jF d|none=>false)|none=>false)|_=>false)
  |_=>false
 | .prtA off n y=>match op with
  | .field t x i=>aG N x y&&(match P.underlying t with|some (.struct fs)=>(match fs[i]? with|some f=>f.offset==off&&(match P.underlying f.type with|some d=>jF d|none=>false)&&(P.info? f.type).isSome&&P.cellsOf f.type==n|none=>false)|_=>false)
  |_=>false
 | .idx sz y j=>match op with
  | .indexAddr t x i=>aG N x y&&aG N i j&&(match P.underlying t with|some (.slice e)=>(P.info? e).isSome&&P.cellsOf e==sz|_=>false)
  |_=>false
 | .sidx y j=>match op with
  | .index t x i=>aG N x y&&aG N i j&&(match P.underlying t with|some .string=>true|_=>false)
  |_=>false
 | .bin b y z=>match op with
  | .binOp b' _ x L _=>b==b'&&aG N x y&&aG N L z
  |_=>false
 | .binB b y z=>match op with
  | .binOp b' t x L _=>b==b'&&aG N x y&&aG N L z&&II P t
  |_=>false
 | .binI b y z=>match op with
  | .binOp b' t x L _=>b==b'&&aG N x y&&aG N L z&&Gf P t&&(pN x||pN L)
  |_=>false
 | .gd _ _ _=>false
 | .binP b y z=>match op with
  | .binOp b' t x L _=>b==b'&&aG N x y&&aG N L z&&L4 P t
  |_=>false
 | .not y=>match op with
  | .unOp .not _ x=>aG N x y
  |_=>false
 | .neg y=>match op with
  | .unOp .neg _ x=>aG N x y
  |_=>false
 | .cvi k y=>match op with
  | .convert s t x=>aG N x y&&(P.underlying s).isSome&&(match P.underlying t with|some (.int k')=>k==k'|_=>false)
  |_=>false
 | .ext y i=>match op with
  | .extract x j=>aG N x y&&i==j
  |_=>false
 | .len y=>match op with
  | .call {callee:= .builtin .len,args,argTypes}=>(match args.toList,argTypes.toList with
   |[x],[t]=>aG N x y&&(match P.underlying t with|some (.slice _)=>true|_=>false)
   |_,_=>false)
  |_=>false
 | .lenT y=>match op with
  | .call {callee:= .builtin .len,args,argTypes}=>(match args.toList,argTypes.toList with
   |[x],[t]=>aG N x y&&(match P.underlying t with|some .string=>true|_=>false)
   |_,_=>false)
  |_=>false
 | .lenM y=>match op with
  | .call {callee:= .builtin .len,args,argTypes}=>(match args.toList,argTypes.toList with
   |[x],[t]=>aG N x y&&(match P.underlying t with|some (.map _ _)=>true|_=>false)
   |_,_=>false)
  |_=>false
 | .mins y ys=>match op with
  | .call {callee:= .builtin .min,args,argTypes:=_}=>lC N args.toList (y::ys)
  |_=>false
 | .maxs y ys=>match op with
  | .call {callee:= .builtin .max,args,argTypes:=_}=>lC N args.toList (y::ys)
  |_=>false
 | .mkfn f ys=>match op with
  | .makeFunc (.func g) first caps=>f==g&&first.size==0&&lC N caps.toList ys
  |_=>false
 | .build zs ps=>match op with
  | .build t parts=>(match P.underlying t,P.info? t with
   |some (.struct fs),some i=>(match i.zero with|some z=>mi z.cells.toList zs|none=>false)&&fs.all (fun f=>(P.info? f.type).isSome)&&o0 P N fs parts.toList ps
   |some (.array _ e),some i=>(match P.info? e with|some ie=>(match i.zero with|some z=>mi z.cells.toList zs|none=>false)&&ng N ie.size parts.toList ps|none=>false)
   |_,_=>false)
  |_=>false
 | .bslice sz xs=>match op with
  | .buildSlice t n parts=>n==parts.size&&o4 N 0 parts.toList xs&&(match P.underlying t with
   |some (.slice e)=>(match P.info? e with|some i=>i.size==sz&&decide (0<sz)&&decide (n * sz<=16777216)&&(match i.zero with|some z=>z.cells.size==sz|none=>false)|none=>false)
   |_=>false)
  |_=>false
 | .slc sz y l h=>match op with
  | .slice t x lo hi none=>aG N x y&&lD N lo l&&lD N hi h&&(match P.underlying t with|some (.slice e)=>(P.info? e).isSome&&P.cellsOf e==sz&&decide (0<sz)|_=>false)
  |_=>false
 | .sslc y l h=>match op with
  | .slice t x lo hi none=>aG N x y&&lD N lo l&&lD N hi h&&(match P.underlying t with|some .string=>true|_=>false)
  |_=>false
 | .eqs b kks y z=>match op with
  | .binOp b' t x L _=>b==b'&&aG N x y&&aG N L z&&(match P.underlying t with|some (.struct fs)=>BL P 0 fs.toList kks|_=>false)&& !P.stoodInHeld t&& !P.eqGuardType P.depth t
  |_=>false
 | .nilc y=>match op with
  | .nilCheck x=>aG N x y
  |_=>false
 | .aidx sz n y j=>match op with
  | .indexAddr t x i=>aG N x y&&aG N i j&&(match P.underlying t with|some (.array len e)=>len==n&&(P.info? e).isSome&&P.cellsOf e==sz|_=>false)
  |_=>false
 | .slcP n y l=>match op with
  | .slice t x (some lo) none none=>aG N x y&&aG N lo l&&(match P.underlying t with|some (.array len e)=>len==n&&(P.info? e).isSome&&P.cellsOf e==1|_=>false)
  |_=>false
 | .slc3 sz y l h m=>match op with
  | .slice t x lo (some hi) (some mx)=>aG N x y&&lD N lo l&&aG N hi h&&aG N mx m&&(match P.underlying t with|some (.slice e)=>(P.info? e).isSome&&P.cellsOf e==sz&&decide (0<sz)|_=>false)
  |_=>false
 | .look kk z ok m k=>match op with
  | .lookup t x i b=>aG N x m&&aG N i k&&b==ok&&(match P.underlying t with|some (.map kt e)=>EJ P kt==some kk&&Hm P e z|_=>false)
  |_=>false
 | .cvis y=>match op with
  | .convert s t x=>aG N x y&&(match P.underlying s with|some (.int _)=>true|_=>false)&&(match P.underlying t with|some .string=>true|_=>false)
  |_=>false
 | .cvbs y=>match op with
  | .convert s t x=>aG N x y&&(match P.underlying s with|some (.slice e)=>(match P.underlying e with|some (.int .u8)=>true|_=>false)|_=>false)&&(match P.underlying t with|some .string=>true|_=>false)
  |_=>false
 | .cvsb y=>match op with
  | .convert s t x=>aG N x y&&(match P.underlying t with|some (.slice e)=>(match P.underlying e with|some (.int .u8)=>true|_=>false)|_=>false)&&(match P.underlying s with|some .string=>true|_=>false)
  |_=>false
 | .cl _ _=>false
