/-
  My text.
-/
import Derived.Test.YteaolfcegaidpaaGreatDoorSXEngC
namespace Go.Proofs.YteaolfcegaidpaaGreatDoor
set_option linter.unusedSimpArgs false
set_option linter.unusedVariables false
open Go.RowKit
inductive SX where
 |t (n:Nat)
 |c (v:SV)
 |f (id:FuncId)
def ev (s:Nat->SV):SX->SV
 | .t n=>s n
 | .c v=>v
 | .f id=> .d (.fn id [])
def wm:Value->SV->Bool
 | .int k n,.d (.int k' n')=>k==k'&&n==n'
 | .bool b,.d (.bool b')=>b==b'
 | .string s,.d (.str l)=>s.data.toList==l
 | .slice none 0 0,.nils=>true
 | .nilIface,.d (.raw .nilIface)=>true
 | .nilFunc,.d (.raw .nilFunc)=>true
 | .pointer none,.d (.raw (.pointer none))=>true
 | .map none,.d (.raw (.map none))=>true
 |_,_=>false
def kO:List Value->List SV->Bool
 |[],[]=>true
 |v::vs,x::xs=>wm v x&&kO vs xs
 |_,_=>false
def pd:Value->SV->Bool
 | .agg vs,.agg xs=>kO vs.toList xs
 |v,x=>wm v x
section
variable {w:World} {M:Nat->Prop} {κ:Nat->Value}
theorem wn {v:Value} {x:SV} (h:wm v x=true):af w M κ x v/\v.oneCell'=true:=by
 unfold wm at h
 split at h<;>simp at h<;>simp[af,aK,Value.oneCell',h]
 rename_i s l
 obtain⟨⟨a⟩⟩:=s
 subst h
 rfl
theorem pe:∀ {vs:List Value} {xs:List SV},kO vs xs=true->aj w M κ xs vs/\∀ u∈vs,u.oneCell'=true
 |[],[],_=>by simp[aj]
 |v::vs,x::xs,h=>by
  simp only[kO,L9] at h
  obtain⟨h1,h2⟩:=wn (w:=w) (M:=M) (κ:=κ) h.1
  obtain⟨h3,h4⟩:=pe h.2
  simp only[aj]
  exact⟨⟨v,vs,rfl,h1,h3⟩,by simpa using⟨h2,h4⟩⟩
 |[],_::_,h=>by simp[kO] at h
 |_::_,[],h=>by simp[kO] at h
theorem nT {v:Value} {x:SV} (h:pd v x=true):af w M κ x v:=by
 unfold pd at h
 split at h
 ·obtain⟨h1,h2⟩:=pe (w:=w) (M:=M) (κ:=κ) h
  simp only[af]
  exact⟨_,by simp,h2,h1⟩
 ·exact(wn h).1
end
def au (N:Nat):Operand->SX->Bool
 | .tmp t,.t n=>t==n&&decide (n<N)
 | .const v,.c x=>pd v x
 | .func f,.f g=>f==g
 |_,_=>false
def j8 (N:Nat):List Operand->List SX->Bool
 |[],[]=>true
 |x::xs,y::ys=>au N x y&&j8 N xs ys
 |_,_=>false
theorem ah {c:Cx} {σ:St} {κ:Nat->Value} {φ:Nat->List Nat} {a:Act} {w:World} (hr:ce c σ κ φ a w) {x:Operand} {y:SX} (h:au c.N x y=true):
  af w (own c φ) κ (ev σ.s y) (a.eval x):=by
 unfold au at h
 split at h
 ·simp at h
  obtain⟨rfl,hn⟩:=h
  exact hr.slots _ hn
 ·exact nT h
 ·simp at h
  subst h
  simp only[ev,af,aK,Act.eval,aB]
  exact⟨[],rfl,rfl⟩
 ·simp at h
theorem jE {c:Cx} {σ:St} {κ:Nat->Value} {φ:Nat->List Nat} {a:Act} {w:World} (hr:ce c σ κ φ a w):∀ {xs:List Operand} {ys:List SX},j8 c.N xs ys=true->
  aj w (own c φ) κ (ys.map (ev σ.s)) (xs.map a.eval)
 |[],[],_=>by simp[aj]
 |x::xs,y::ys,h=>by
  simp only[j8,L9] at h
  simp only[Mk,aj]
  exact⟨_,_,rfl,ah hr h.1,jE hr h.2⟩
 |[],_::_,h=>by simp[j8] at h
 |_::_,[],h=>by simp[j8] at h
mutual
def SV.firm:SV->Bool
 | .d v=>match v with| .any=>false|_=>true
 | .nils=>true
 | .lit _ _ cs=>SV.firms cs
 | .agg cs=>SV.firms cs
 |_=>false
def SV.firms:List SV->Bool
 |[]=>true
 |c::cs=>SV.firm c&&SV.firms cs
end
def zf:List SV->Option (List Nat)
 |[]=>some []
 | .ref id 0::cs=>match zf cs with|some l=>some (id::l)|none=>none
 |_::_=>none
def mm (s:Nat->SV):List Nat->Bool
 |[]=>true
 |n::l=>(s n).firm&&mm s l
inductive sM where
 |mv (x:SX)
 |pick (c a b:SX)
 |boxI (x:SX)
 |ld1 (x:SX)
 |ldA (n:Nat) (x:SX)
 |fld (off:Nat) (x:SX)
 |prt1 (off:Nat) (x:SX)
 |prtA (off n:Nat) (x:SX)
 |idx (sz:Nat) (x i:SX)
 |sidx (x i:SX)
 |vidx (n:Nat) (x i:SX)
 |vidxA (n w:Nat) (x i:SX)
 |bin (op:BinOp) (x y:SX)
 |binB (op:BinOp) (x y:SX)
 |binI (op:BinOp) (x y:SX)
 |binP (op:BinOp) (x y:SX)
 |not (x:SX)
 |neg (x:SX)
 |cvi (k:IntKind) (x:SX)
 |ext (x:SX) (i:Nat)
 |len (x:SX)
 |lenT (x:SX)
 |lenM (x:SX)
 |mins (x:SX) (xs:List SX)
 |maxs (x:SX) (xs:List SX)
 |mkfn (f:FuncId) (caps:List SX)
 |build (zs:List SV) (ps:List (Nat×Nat×SX))
 |bslice (sz:Nat) (xs:List SX)
 |slc (sz:Nat) (x:SX) (lo hi:Option SX)
 |sslc (x:SX) (lo hi:Option SX)
 |look (kk:KK) (z:SV) (ok:Bool) (m k:SX)
 |eqs (op:BinOp) (kks:List KK) (x y:SX)
 |nilc (x:SX)
 |aidx (sz n:Nat) (x i:SX)
 |slcP (n:Nat) (x lo:SX)
 |slc3 (sz:Nat) (x:SX) (lo:Option SX) (hi mx:SX)
 |cvis (x:SX)
 |cvbs (x:SX)
 |cvsb (x:SX)
 |cl (t:Nat) (ts:List Nat)
 |gd (t:Nat) (want:Bool) (op:sM)
def CX (op:BinOp) (k:IntKind) (a b:Int):Int:=
 let x:=BitVec.ofInt k.bits a
 let y:=BitVec.ofInt k.bits b
 k.wrap (match op with| .and=>(x&&&y).toNat| .or=>(x|||y).toNat|_=>(x ^^^ y).toNat)
def wo (op:BinOp) (k:IntKind) (a b:Int):Option (Prop×DV):=
 match op with
 | .add=>some (True,.int k (k.wrap (a+b)))
 | .sub=>some (True,.int k (k.wrap (a - b)))
 | .mul=>some (True,.int k (k.wrap (a * b)))
 | .quo=>some (b≠0,.int k (k.wrap (a.tdiv b)))
 | .rem=>some (b≠0,.int k (a.tmod b))
 | .and=>some (True,.int k (CX .and k a b))
 | .or=>some (True,.int k (CX .or k a b))
 | .xor=>some (True,.int k (CX .xor k a b))
 | .shr=>some (0<=b/\b<=k.bits,.int k (a/2^b.toNat))
 | .shl=>some (0<=b/\b<=k.bits,.int k (k.wrap (a * 2^b.toNat)))
 | .eql=>some (True,.bool (decide (a=b)))
 | .neq=>some (True,.bool (decide (a≠b)))
 | .lss=>some (True,.bool (decide (a<b)))
 | .leq=>some (True,.bool (decide (a<=b)))
 | .gtr=>some (True,.bool (decide (b<a)))
 | .geq=>some (True,.bool (decide (b<=a)))
 |_=>none
def E5 (op:BinOp) (a b:List UInt8):Option (Prop×DV):=
 match op with
 | .add=>some (a.length+b.length<=1000000000000,.str (a++b))
 | .eql=>some (True,.bool (decide (a=b)))
 | .neq=>some (True,.bool (decide (a≠b)))
 | .lss=>some (True,.bool (Op.bytesLess a b))
 | .leq=>some (True,.bool (Op.bytesLess a b||decide (a=b)))
 | .gtr=>some (True,.bool (!(Op.bytesLess a b||decide (a=b))))
 | .geq=>some (True,.bool (!Op.bytesLess a b))
 |_=>none
def yK (op:BinOp):DV->DV->Option (Prop×DV)
 | .int k a,.int k' b=>if k=k' then wo op k a b else match op with| .shr=>wo .shr k a b| .shl=>wo .shl k a b|_=>none
 | .str a,.str b=>E5 op a b
 | .bool a,.bool b=>match op with
  | .eql=>some (True,.bool (decide (a=b)))
  | .neq=>some (True,.bool (decide (a≠b)))
  |_=>none
 | .raw .nilIface,.raw .nilIface=>match op with
  | .eql=>some (True,.bool true)
  | .neq=>some (True,.bool false)
  |_=>none
 | .err,.raw .nilIface=>match op with
  | .eql=>some (True,.bool false)
  | .neq=>some (True,.bool true)
  |_=>none
 |_,_=>none
def rG:Int->List DV->Option Int
 |a,[]=>some a
 |a,.int .i64 b::r=>rG (if b<a then b else a) r
 |_,_=>none
def rH:Int->List DV->Option Int
 |a,[]=>some a
 |a,.int .i64 b::r=>rH (if b>a then b else a) r
 |_,_=>none
def yc:List SV->List (Nat×Nat×SV)->Option (List SV)
 |zs,[]=>some zs
 |zs,(off,n,x)::ps=>match x.cells? with
  |some cs=>if cs.length=n/\off+n<=zs.length then yc (zs.take off++cs++zs.drop (off+n)) ps else none
  |none=>none
def E6 (x:SV):Option (List DV):=match x.toDV with|some d=>d.cells?|none=>none
def jF (sz:Nat):List SV->Option (List SV)
 |[]=>some []
 |x::xs=>match x.cells?,jF sz xs with
  |some r,some rs=>if r.length=sz then some (r++rs) else none
  |_,_=>none
def ss:DV->DV->Bool
 | .int k a,.int k' b=>decide (k=k')&&decide (a=b)
 | .str a,.str b=>decide (a=b)
 | .bool a,.bool b=>decide (a=b)
 |_,_=>false
def lM {α:Type}:List (DV×α)->DV->Option α
 |[],_=>none
 |(k,d)::kv,x=>if ss x k then some d else lM kv x
def iO {α:Type}:List (DV×α)->DV->α->List (DV×α)
 |[],x,d=>[(x,d)]
 |(k,e)::kv,x,d=>if ss x k then(x,d)::kv else(k,e)::iO kv x d
def lN (kv:List (DV×SV)) (x:DV) (z:SV):SV:=(lM kv x).getD z
def zg (kv:List (DV×SV)) (x:DV):Bool:=(lM kv x).isSome
def pf:KK->DV->DV->Option Bool
 | .str,.str a,.str b=>some (decide (a=b))
 | .int k,.int k1 a,.int k2 b=>if k1=k/\k2=k then some (decide (a=b)) else none
 | .bool,.bool a,.bool b=>some (decide (a=b))
 |_,_,_=>none
def bV:List KK->List DV->List DV->Option Bool
 |[],[],[]=>some true
 |k::ks,a::as,b::bs=>match pf k a b,bV ks as bs with|some p,some q=>some (p&&q)|_,_=>none
 |_,_,_=>none
def CR (s:Nat->SV):Option SX->Option (Option Int)
 |none=>some none
 |some x=>match ev s x with| .d (.int _ n)=>some (some n)|_=>none
def rI:List SV->Option (List UInt8)
 |[]=>some []
 | .d (.int .u8 n)::r=>if 0<=n/\n<256 then(match rI r with|some l=>some (UInt8.ofNat n.toNat::l)|none=>none) else none
 |_=>none
def rJ:List (List DV)->Option (List UInt8)
 |[]=>some []
 |[.int .u8 n]::r=>if 0<=n/\n<256 then(match rJ r with|some l=>some (UInt8.ofNat n.toNat::l)|none=>none) else none
 |_=>none
def rd (h:Nat->Ch) (s:Nat->SV):sM->Option (Prop×SV)
 | .mv x=>some (True,ev s x)
 | .pick c a b=>match ev s c with
  | .d (.bool true)=>some (True,ev s a)
  | .d (.bool false)=>some (True,ev s b)
  |_=>none
 | .boxI x=>match E6 (ev s x) with
  |some cs=>some (True,.d (.ptr cs))
  |none=>none
 | .ld1 x=>match ev s x with
  | .d (.ptr (c::_))=>some (True,.d c)
  | .ref id off=>match h id with
   | .box cs=>match cs[off]? with|some c=>if c.noOwn then some (True,c) else none|none=>none
   |_=>none
  | .vref id sz i off=>match h id with
   | .vec _ sz' rows=>match rows[i]? with
    |some r=>match r[off]? with|some c=>if c.noOwn then some (sz'=sz,c) else none|none=>none
    |none=>none
   |_=>none
  |_=>none
 | .ldA n x=>match ev s x with
  | .d (.ptr cs)=>some (n<=cs.length,.d (.agg (cs.take n)))
  | .ref id off=>match h id with
   | .box cs=>if SV.noOwns ((cs.drop off).take n) then some (off+n<=cs.length,.agg ((cs.drop off).take n)) else none
   |_=>none
  | .vref id sz i off=>match h id with
   | .vec _ sz' rows=>match rows[i]? with
    |some r=>if SV.noOwns ((r.drop off).take n) then some (sz'=sz/\off+n<=r.length,.agg ((r.drop off).take n)) else none
    |none=>none
   |_=>none
  |_=>none
 | .fld off x=>match ev s x with
  | .d (.ptr cs)=>some (True,.d (.ptr (cs.drop off)))
  | .ref id o=>some (True,.ref id (o+off))
  | .vref id sz i o=>some (True,.vref id sz i (o+off))
  |_=>none
 | .vidx n x i=>match ev s x,ev s i with
  | .d (.agg cs),.d (.int _ k)=>match cs[k.toNat]? with|some c=>some (0<=k/\k<n,.d c)|none=>none
  | .agg cs,.d (.int _ k)=>match cs[k.toNat]? with|some c=>some (0<=k/\k<n,c)|none=>none
  |_,_=>none
 | .vidxA n w x i=>match ev s x,ev s i with
  | .d (.agg cs),.d (.int _ k)=>some (0<=k/\k<n,.d (.agg ((cs.drop (k.toNat * w)).take w)))
  | .agg cs,.d (.int _ k)=>match SV.toDVs ((cs.drop (k.toNat * w)).take w) with|some xs=>some (0<=k/\k<n,.d (.agg xs))|none=>none
  |_,_=>none
 | .prt1 off x=>match ev s x with
  | .d (.agg cs)=>match cs[off]? with|some c=>some (True,.d c)|none=>none
  | .agg cs=>match cs[off]? with|some c=>some (True,c)|none=>none
  |_=>none
 | .prtA off n x=>match ev s x with
  | .d (.agg cs)=>some (off+n<=cs.length,.d (.agg ((cs.drop off).take n)))
  | .agg cs=>some (off+n<=cs.length,.agg ((cs.drop off).take n))
  |_=>none
 | .idx sz x i=>match ev s i with
  | .d (.int _ n)=>match ev s x with
   | .d (.slice rows)=>match rows[n.toNat]? with
    |some r=>some (0<=n/\r.length=sz,.d (.ptr r))
    |none=>none
   | .lit sz' k cs=>match SV.toDVs cs with
    |some ds=>match(fc sz' k ds)[n.toNat]? with
     |some r=>some (0<=n/\r.length=sz,.d (.ptr r))
     |none=>none
    |none=>none
   | .vec id=>match h id with
    | .vec _ sz' rows=>some (0<=n/\n<rows.length/\sz'=sz,.vref id sz n.toNat 0)
    |_=>none
   |_=>none
  |_=>none
 | .sidx x i=>match ev s x,ev s i with
  | .d (.str l),.d (.int _ n)=>match l[n.toNat]? with
   |some c=>some (0<=n,.d (.int .u8 c.toNat))
   |none=>none
  |_,_=>none
 | .bin op x y=>match ev s x,ev s y with
  | .d (.int k a),.d (.int k' b)=>match yK op (.int k a) (.int k' b) with|some (p,r)=>some (p,.d r)|none=>none
  | .d (.str a),.d (.str b)=>match yK op (.str a) (.str b) with|some (p,r)=>some (p,.d r)|none=>none
  |_,_=>none
 | .binB op x y=>match ev s x,ev s y with
  | .d (.bool a),.d (.bool b)=>match yK op (.bool a) (.bool b) with|some (p,r)=>some (p,.d r)|none=>none
  |_,_=>none
 | .binI op x y=>match ev s x,ev s y with
  | .d (.raw .nilIface),.d (.raw .nilIface)=>match yK op (.raw .nilIface) (.raw .nilIface) with|some (p,r)=>some (p,.d r)|none=>none
  | .d .err,.d (.raw .nilIface)=>match yK op .err (.raw .nilIface) with|some (p,r)=>some (p,.d r)|none=>none
  |_,_=>none
 | .binP op x y=>match ev s y with
  | .d (.raw (.pointer none))=>match op with
   | .eql=>match ev s x with
    | .ref _ _=>some (True,.d (.bool false))
    | .vref _ _ _ _=>some (True,.d (.bool false))
    | .d (.raw (.pointer none))=>some (True,.d (.bool true))
    |_=>none
   |_=>none
  |_=>none
 | .not x=>match ev s x with| .d (.bool b)=>some (True,.d (.bool !b))|_=>none
 | .neg x=>match ev s x with| .d (.int k n)=>some (True,.d (.int k (k.wrap (0 - n))))|_=>none
 | .cvi k x=>match ev s x with| .d (.int _ n)=>some (True,.d (.int k (k.wrap n)))|_=>none
 | .ext x i=>match ev s x with
  | .d (.tup cs)=>match cs[i]? with|some c=>some (True,.d c)|none=>none
  | .tup cs=>match cs[i]? with|some c=>some (True,c)|none=>none
  |_=>none
 | .len x=>match ev s x with
  | .d (.slice rows)=>some (True,.d (.int .i64 rows.length))
  | .nils=>some (True,.d (.int .i64 0))
  | .lit _ n _=>some (True,.d (.int .i64 n))
  | .vec id=>match h id with| .vec _ _ rows=>some (True,.d (.int .i64 rows.length))|_=>none
  |_=>none
 | .lenT x=>match ev s x with
  | .d (.str l)=>some (True,.d (.int .i64 l.length))
  |_=>none
 | .lenM x=>match ev s x with
  | .mp id=>match h id with| .map _ kv=>some (True,.d (.int .i64 kv.length))|_=>none
  |_=>none
 | .mins x xs=>match ev s x,SV.toDVs (xs.map (ev s)) with
  | .d (.int .i64 a),some l=>match rG a l with|some r=>some (True,.d (.int .i64 r))|none=>none
  |_,_=>none
 | .maxs x xs=>match ev s x,SV.toDVs (xs.map (ev s)) with
  | .d (.int .i64 a),some l=>match rH a l with|some r=>some (True,.d (.int .i64 r))|none=>none
  |_,_=>none
 | .mkfn f caps=>match SV.toDVs (caps.map (ev s)) with
  |some l=>some (True,.d (.fn f l))
  |none=>match zf (caps.map (ev s)) with
   |some ids=>some (True,.clo f ids)
   |none=>none
 | .build zs ps=>match yc zs (ps.map fun p=>(p.1,p.2.1,ev s p.2.2)) with
  |some cs=>some (True,.agg cs)
  |none=>none
 | .bslice sz xs=>match jF sz (xs.map (ev s)) with
  |some cs=>some (True,.lit sz xs.length cs)
  |none=>none
 | .slc sz x lo hi=>match ev s x,CR s lo,CR s hi with
  | .d (.slice rows),some l,some h=>some ((∀ r∈rows,r.length=sz)/\0<=l.getD 0/\l.getD 0<=h.getD rows.length/\h.getD rows.length<=rows.length,.d (.slice ((rows.take (h.getD rows.length).toNat).drop (l.getD 0).toNat)))
  | .lit sz' k cs,some l,some h=>match SV.toDVs cs with
   |some ds=>some (sz'=sz/\0<=l.getD 0/\l.getD 0<=h.getD k/\h.getD k<=k,.d (.slice (((fc sz k ds).take (h.getD k).toNat).drop (l.getD 0).toNat)))
   |none=>none
  | .nils,some l,some h=>some (l.getD 0=0/\h.getD 0=0,.nils)
  |_,_,_=>none
 | .sslc x lo hi=>match ev s x,CR s lo,CR s hi with
  | .d (.str b),some l,some h=>some (0<=l.getD 0/\l.getD 0<=h.getD b.length/\h.getD b.length<=b.length,.d (.str ((b.take (h.getD b.length).toNat).drop (l.getD 0).toNat)))
  |_,_,_=>none
 | .look kk z ok m k=>match ev s m,ev s k with
  | .mp id,.d x=>match h id with
   | .map kk' kv=>some (kk'=kk/\kk.fits x=true/\(lN kv x z).noOwn=true,if ok then .tup [lN kv x z,.d (.bool (zg kv x))] else lN kv x z)
   |_=>none
  | .d (.map ks vs),.d x=>some ((ks.all kk.fits=true/\kk.fits x=true)/\(lN (ks.zip (vs.map .d)) x z).noOwn=true,if ok then .tup [lN (ks.zip (vs.map .d)) x z,.d (.bool (zg (ks.zip (vs.map .d)) x))] else lN (ks.zip (vs.map .d)) x z)
  |_,_=>none
 | .eqs op kks x y=>match(ev s x).toDV,(ev s y).toDV with
  |some (.agg cs),some (.agg ds)=>match bV kks cs ds with
   |some b=>match op with
    | .eql=>some (True,.d (.bool b))
    | .neq=>some (True,.d (.bool !b))
    |_=>none
   |none=>none
  |_,_=>none
 | .gd _ _ _=>none
 | .nilc x=>match ev s x with
  | .ref id off=>some (True,.ref id off)
  | .vref id sz i off=>some (True,.vref id sz i off)
  | .d (.ptr cs)=>some (True,.d (.ptr cs))
  |_=>none
 | .aidx sz n x i=>match ev s x,ev s i with
  | .ref id off,.d (.int _ k)=>some (0<=k/\k<n,.ref id (off+k.toNat * sz))
  |_,_=>none
 | .slcP n x lo=>match ev s x,ev s lo with
  | .d (.ptr cs),.d (.int _ k)=>some (cs.length=n/\0<=k/\k<=n,.d (.slice ((cs.drop k.toNat).map fun c=>[c])))
  |_,_=>none
 | .slc3 sz x lo hi mx=>match ev s x,CR s lo,ev s hi,ev s mx with
  | .d (.slice rows),some l,.d (.int _ h),.d (.int _ m)=>some ((∀ r∈rows,r.length=sz)/\0<=l.getD 0/\l.getD 0<=h/\h<=m/\m<=rows.length,.d (.slice ((rows.take h.toNat).drop (l.getD 0).toNat)))
  |_,_,_,_=>none
 | .cvis x=>match ev s x with
  | .d (.int _ n)=>some (True,.d (.str (Utf8.encode n).data.toList))
  |_=>none
 | .cvbs x=>match ev s x with
  | .d (.slice rows)=>match rJ rows with|some l=>some (True,.d (.str l))|none=>none
  | .nils=>some (True,.d (.str []))
  | .lit sz n cs=>match rI cs with|some l=>some (sz=1,.d (.str l))|none=>none
  | .vec id=>match h id with
   | .vec _ sz rows=>match rI rows.flatten with|some l=>some (sz=1,.d (.str l))|none=>none
   |_=>none
  |_=>none
 | .cvsb x=>match ev s x with
  | .d (.str l)=>some (True,.d (.slice (l.map fun b=>[.int .u8 b.toNat])))
  |_=>none
 | .cl t ts=>if mm s ts=true then some (True,s t) else none
def iD:TypeDesc->Bool
 | .struct _| .array _ _=>true
 |_=>false
def j9 (N:Nat):Option Operand->Option SX->Bool
 |none,none=>true
 |some x,some y=>au N x y
 |_,_=>false
def Ed (P:Program) (t:TypeId):Bool:=
 match P.underlying t with
 |some .bool=>true
 |_=>false
def B2 (P:Program) (t:TypeId):Bool:=
 match P.underlying t with
 |some (.interface _)=>true
 |_=>false
def G7 (P:Program) (t:TypeId):Bool:=
 match P.underlying t with
 |some (.pointer _)=>true
 |_=>false
def nU:Operand->Bool
 | .const _=>true
 |_=>false
def nk (P:Program) (N:Nat) (fields:Array Field):List (Nat×Operand)->List (Nat×Nat×SX)->Bool
 |[],[]=>true
 |(i,x)::ps,(off,n,y)::qs=>(match fields[i]? with|some f=>f.offset==off&&(P.info? f.type).isSome&&P.cellsOf f.type==n|none=>false)&&au N x y&&nk P N fields ps qs
 |_,_=>false
def lO (N sz:Nat):List (Nat×Operand)->List (Nat×Nat×SX)->Bool
 |[],[]=>true
 |(i,x)::ps,(off,n,y)::qs=>off==i * sz&&n==sz&&au N x y&&lO N sz ps qs
 |_,_=>false
def nl (N:Nat):Nat->List (Nat×Operand)->List SX->Bool
 |_,[],[]=>true
 |i,(j,x)::ps,y::qs=>i==j&&au N x y&&nl N (i+1) ps qs
 |_,_,_=>false
def AH (P:Program) (t:TypeId):Option KK:=
 match P.underlying t with
 |some .string=>some .str
 |some (.int k)=>some (.int k)
 |some .bool=>some .bool
 |_=>none
def zh (P:Program):Nat->List Field->List KK->Bool
 |_,[],[]=>true
 |k,f::fs,kk::kks=>f.offset==k&&f.name != "_" &&AH P f.type==some kk&&zh P (k+1) fs kks
 |_,_,_=>false
def yd (P:Program):Nat->List Field->List KK->Bool
 |_,[],[]=>true
 |_,[],_::_=>false
 |k,f::fs,kks=>f.offset==k&&f.name != "_" &&(match P.underlying f.type with
  |some (.struct gs)=> !P.stoodInHeld f.type&&zh P 0 gs.toList (kks.take gs.size)&&(P.info? f.type).isSome&&P.cellsOf f.type==gs.size&&decide (gs.size<=kks.length)&&yd P (k+gs.size) fs (kks.drop gs.size)
  |_=>(match kks with|kk::kks'=>AH P f.type==some kk&&yd P (k+1) fs kks'|[]=>false))
def CY (P:Program) (t:TypeId) (z:SV):Bool:=
 match P.info? t with
 |some i=>(match i.zero with
  |some v=>pd v z
  |none=>false)
 |none=>false
def CZ (P:Program) (t:TypeId):SX->Bool
 | .c v=>match P.info? t with|some i=>(match i.zero with|some z=>pd z v|none=>false)|none=>false
 |_=>false
def bQ (P:Program) (N:Nat) (op:Op):sM->Bool
 | .mv y=>match op with
  | .move x=>au N x y
  | .assign x=>au N x y
  |_=>false
 | .pick c a b=>match op with
  | .pick c' a' b'=>au N c' c&&au N a' a&&au N b' b
  |_=>false
 | .boxI y=>match op with
  | .box _ x=>au N x y
  | .alloc t=>CZ P t y
  |_=>false
 | .ld1 y=>match op with
  | .load t x=>au N x y&&(match P.underlying t with|some d=> !iD d|none=>false)
  |_=>false
 | .ldA n y=>match op with
  | .load t x=>au N x y&&(match P.underlying t with|some d=>iD d|none=>false)&&(P.info? t).isSome&&P.cellsOf t==n
  |_=>false
 | .fld off y=>match op with
  | .fieldAddr t x i=>au N x y&&(match P.underlying t with|some (.struct fs)=>(match fs[i]? with|some f=>f.offset==off&&(P.info? f.type).isSome&&P.cellsOf f.type !=0|none=>false)|_=>false)
  |_=>false
 | .vidx n y j=>match op with
  | .index t x i=>au N x y&&au N i j&&(match P.underlying t with|some (.array len e)=>len==n&&(P.info? e).isSome&&P.cellsOf e==1&&(match P.underlying e with|some d=> !iD d|none=>false)|_=>false)
  |_=>false
 | .vidxA n w y j=>match op with
  | .index t x i=>au N x y&&au N i j&&(match P.underlying t with|some (.array len e)=>len==n&&(P.info? e).isSome&&P.cellsOf e==w&&(match P.underlying e with|some d=>iD d|none=>false)|_=>false)
  |_=>false
 | .prt1 off y=>match op with
  | .field t x i=>au N x y&&(match P.underlying t with|some (.struct fs)=>(match fs[i]? with|some f=>f.offset==off&&(match P.underlying f.type with|some d=> !iD d|none=>false)|none=>false)|_=>false)
  |_=>false
 | .prtA off n y=>match op with
  | .field t x i=>au N x y&&(match P.underlying t with|some (.struct fs)=>(match fs[i]? with|some f=>f.offset==off&&(match P.underlying f.type with|some d=>iD d|none=>false)&&(P.info? f.type).isSome&&P.cellsOf f.type==n|none=>false)|_=>false)
  |_=>false
 | .idx sz y j=>match op with
  | .indexAddr t x i=>au N x y&&au N i j&&(match P.underlying t with|some (.slice e)=>(P.info? e).isSome&&P.cellsOf e==sz|_=>false)
  |_=>false
 | .sidx y j=>match op with
  | .index t x i=>au N x y&&au N i j&&(match P.underlying t with|some .string=>true|_=>false)
  |_=>false
 | .bin b y z=>match op with
  | .binOp b' _ x x' _=>b==b'&&au N x y&&au N x' z
  |_=>false
 | .binB b y z=>match op with
  | .binOp b' t x x' _=>b==b'&&au N x y&&au N x' z&&Ed P t
  |_=>false
 | .binI b y z=>match op with
  | .binOp b' t x x' _=>b==b'&&au N x y&&au N x' z&&B2 P t&&(nU x||nU x')
  |_=>false
 | .gd _ _ _=>false
 | .binP b y z=>match op with
  | .binOp b' t x x' _=>b==b'&&au N x y&&au N x' z&&G7 P t
  |_=>false
 | .not y=>match op with
  | .unOp .not _ x=>au N x y
  |_=>false
 | .neg y=>match op with
  | .unOp .neg _ x=>au N x y
  |_=>false
 | .cvi k y=>match op with
  | .convert s t x=>au N x y&&(P.underlying s).isSome&&(match P.underlying t with|some (.int k')=>k==k'|_=>false)
  |_=>false
 | .ext y i=>match op with
  | .extract x j=>au N x y&&i==j
  |_=>false
 | .len y=>match op with
  | .call {callee:= .builtin .len,args,argTypes}=>(match args.toList,argTypes.toList with
   |[x],[t]=>au N x y&&(match P.underlying t with|some (.slice _)=>true|_=>false)
   |_,_=>false)
  |_=>false
 | .lenT y=>match op with
  | .call {callee:= .builtin .len,args,argTypes}=>(match args.toList,argTypes.toList with
   |[x],[t]=>au N x y&&(match P.underlying t with|some .string=>true|_=>false)
   |_,_=>false)
  |_=>false
 | .lenM y=>match op with
  | .call {callee:= .builtin .len,args,argTypes}=>(match args.toList,argTypes.toList with
   |[x],[t]=>au N x y&&(match P.underlying t with|some (.map _ _)=>true|_=>false)
   |_,_=>false)
  |_=>false
 | .mins y ys=>match op with
  | .call {callee:= .builtin .min,args,argTypes:=_}=>j8 N args.toList (y::ys)
  |_=>false
 | .maxs y ys=>match op with
  | .call {callee:= .builtin .max,args,argTypes:=_}=>j8 N args.toList (y::ys)
  |_=>false
 | .mkfn f ys=>match op with
  | .makeFunc (.func g) first caps=>f==g&&first.size==0&&j8 N caps.toList ys
  |_=>false
 | .build zs ps=>match op with
  | .build t parts=>(match P.underlying t,P.info? t with
   |some (.struct fs),some i=>(match i.zero with|some z=>kO z.cells.toList zs|none=>false)&&fs.all (fun f=>(P.info? f.type).isSome)&&nk P N fs parts.toList ps
   |some (.array _ e),some i=>(match P.info? e with|some ie=>(match i.zero with|some z=>kO z.cells.toList zs|none=>false)&&lO N ie.size parts.toList ps|none=>false)
   |_,_=>false)
  |_=>false
 | .bslice sz xs=>match op with
  | .buildSlice t n parts=>n==parts.size&&nl N 0 parts.toList xs&&(match P.underlying t with
   |some (.slice e)=>(match P.info? e with|some i=>i.size==sz&&decide (0<sz)&&decide (n * sz<=16777216)&&(match i.zero with|some z=>z.cells.size==sz|none=>false)|none=>false)
   |_=>false)
  |_=>false
 | .slc sz y l h=>match op with
  | .slice t x lo hi none=>au N x y&&j9 N lo l&&j9 N hi h&&(match P.underlying t with|some (.slice e)=>(P.info? e).isSome&&P.cellsOf e==sz&&decide (0<sz)|_=>false)
  |_=>false
 | .sslc y l h=>match op with
  | .slice t x lo hi none=>au N x y&&j9 N lo l&&j9 N hi h&&(match P.underlying t with|some .string=>true|_=>false)
  |_=>false
 | .eqs b kks y z=>match op with
  | .binOp b' t x x' _=>b==b'&&au N x y&&au N x' z&&(match P.underlying t with|some (.struct fs)=>yd P 0 fs.toList kks|_=>false)&& !P.stoodInHeld t&& !P.eqGuardType P.depth t
  |_=>false
 | .nilc y=>match op with
  | .nilCheck x=>au N x y
  |_=>false
 | .aidx sz n y j=>match op with
  | .indexAddr t x i=>au N x y&&au N i j&&(match P.underlying t with|some (.array len e)=>len==n&&(P.info? e).isSome&&P.cellsOf e==sz|_=>false)
  |_=>false
 | .slcP n y l=>match op with
  | .slice t x (some lo) none none=>au N x y&&au N lo l&&(match P.underlying t with|some (.array len e)=>len==n&&(P.info? e).isSome&&P.cellsOf e==1|_=>false)
  |_=>false
 | .slc3 sz y l h m=>match op with
  | .slice t x lo (some hi) (some mx)=>au N x y&&j9 N lo l&&au N hi h&&au N mx m&&(match P.underlying t with|some (.slice e)=>(P.info? e).isSome&&P.cellsOf e==sz&&decide (0<sz)|_=>false)
  |_=>false
 | .look kk z ok m k=>match op with
  | .lookup t x i b=>au N x m&&au N i k&&b==ok&&(match P.underlying t with|some (.map kt e)=>AH P kt==some kk&&CY P e z|_=>false)
  |_=>false
 | .cvis y=>match op with
  | .convert s t x=>au N x y&&(match P.underlying s with|some (.int _)=>true|_=>false)&&(match P.underlying t with|some .string=>true|_=>false)
  |_=>false
 | .cvbs y=>match op with
  | .convert s t x=>au N x y&&(match P.underlying s with|some (.slice e)=>(match P.underlying e with|some (.int .u8)=>true|_=>false)|_=>false)&&(match P.underlying t with|some .string=>true|_=>false)
  |_=>false
 | .cvsb y=>match op with
  | .convert s t x=>au N x y&&(match P.underlying t with|some (.slice e)=>(match P.underlying e with|some (.int .u8)=>true|_=>false)|_=>false)&&(match P.underlying s with|some .string=>true|_=>false)
  |_=>false
 | .cl _ _=>false
