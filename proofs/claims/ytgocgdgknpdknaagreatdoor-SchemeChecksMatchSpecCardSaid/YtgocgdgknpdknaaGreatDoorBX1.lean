/-
  Laws on the way to the theorem.
-/
import Derived.Ground.NamesProg
import Derived.Shelf.Strings.BuilderF
import Derived.Test.YtgocgdgknpdknaaGreatDoorProg
import Derived.Shelf.Strings.Builder1
import Derived.Shelf.Strings.OnBuilder
import Derived.Shelf.Strings.SlTrimAscii
import Derived.Shelf.Small.Strs
import Derived.Shelf.Strconv.Itoa3
import Derived.Shelf.Strings.SplitShaped
import Derived.Shelf.Strings.Shaped
import Derived.Shelf.Small.Wraps
import Derived.Shelf.Strconv.Atoi
import Derived.Test.YtgocgdgknpdknaaGreatDoorSXEngRt
namespace Go.Proofs.YtgocgdgknpdknaaGreatDoor
set_option linter.unusedSimpArgs false
set_option linter.unusedVariables false
open Go.RowKit Go.Lib
end Go.Proofs.YtgocgdgknpdknaaGreatDoor
namespace Go.Proofs.YtgocgdgknpdknaaGreatDoor
set_option linter.unusedSimpArgs false
set_option linter.unusedVariables false
open Go.RowKit Go.Lib
end Go.Proofs.YtgocgdgknpdknaaGreatDoor
namespace Go.Proofs
open Go.Proofs.YtgocgdgknpdknaaGreatDoor
open Go.Shelf
def Tryz.lays166_ren:Go.Shelf.Ren:=⟨fun|166=>9|240=>32|276=>51|n=>n,fun|0=>0|3=>3|4=>4|9=>9|20=>20|37=>33|70=>32|72=>35|75=>37|164=>98|5=>5|80=>55|n=>n,fun|n=>n⟩
theorem Tryz.lays166:Go.Proofs.Lays.n166 Tryz.prog Tryz.lays166_ren:={
 mixed:=oK
 f166:=Tryz.func9.trans (congrArg some oK)
 f240:=Tryz.func32.trans (congrArg some oK)
 f276:=Tryz.func51.trans (congrArg some oK)
 t0:=Tryz.underlying0
 a0:=Tryz.isAgg0
 z0:=Tryz.sizeOf0
 v0:=Tryz.zeroValue0
 t3:=Tryz.underlying3
 a3:=Tryz.isAgg3
 z3:=Tryz.sizeOf3
 v3:=Tryz.zeroValue3
 t4:=Tryz.underlying4
 a4:=Tryz.isAgg4
 z4:=Tryz.sizeOf4
 v4:=Tryz.zeroValue4
 t9:=Tryz.underlying9
 a9:=Tryz.isAgg9
 z9:=Tryz.sizeOf9
 v9:=Tryz.zeroValue9
 t20:=Tryz.underlying20
 a20:=Tryz.isAgg20
 z20:=Tryz.sizeOf20
 v20:=Tryz.zeroValue20
 t37:=Tryz.underlying33
 a37:=Tryz.isAgg33
 z37:=Tryz.sizeOf33
 v37:=Tryz.zeroValue33
 t70:=Tryz.underlying32
 a70:=Tryz.isAgg32
 z70:=Tryz.sizeOf32
 v70:=Tryz.zeroValue32
 t72:=Tryz.underlying35
 a72:=Tryz.isAgg35
 z72:=Tryz.sizeOf35
 v72:=Tryz.zeroValue35
 t75:=Tryz.underlying37
 a75:=Tryz.isAgg37
 z75:=Tryz.sizeOf37
 v75:=Tryz.zeroValue37
 t164:=Tryz.underlying98
 a164:=Tryz.isAgg98
 z164:=Tryz.sizeOf98
 v164:=Tryz.zeroValue98}
def Tryz.lays169_ren:Go.Shelf.Ren:=⟨fun|169=>16|n=>n,fun|0=>0|3=>3|9=>9|37=>33|70=>32|72=>35|127=>82|5=>5|n=>n,fun|n=>n⟩
theorem Tryz.lays169:Go.Proofs.Lays.n169 Tryz.prog Tryz.lays169_ren:={
 mixed:=oK
 f169:=Tryz.func16.trans (congrArg some oK)
 t0:=Tryz.underlying0
 a0:=Tryz.isAgg0
 z0:=Tryz.sizeOf0
 v0:=Tryz.zeroValue0
 t3:=Tryz.underlying3
 a3:=Tryz.isAgg3
 z3:=Tryz.sizeOf3
 v3:=Tryz.zeroValue3
 t9:=Tryz.underlying9
 a9:=Tryz.isAgg9
 z9:=Tryz.sizeOf9
 v9:=Tryz.zeroValue9
 t37:=Tryz.underlying33
 a37:=Tryz.isAgg33
 z37:=Tryz.sizeOf33
 v37:=Tryz.zeroValue33
 t70:=Tryz.underlying32
 a70:=Tryz.isAgg32
 z70:=Tryz.sizeOf32
 v70:=Tryz.zeroValue32
 t72:=Tryz.underlying35
 a72:=Tryz.isAgg35
 z72:=Tryz.sizeOf35
 v72:=Tryz.zeroValue35
 t127:=Tryz.underlying82
 a127:=Tryz.isAgg82
 z127:=Tryz.sizeOf82
 v127:=Tryz.zeroValue82}
def Tryz.lays170_ren:Go.Shelf.Ren:=⟨fun|170=>14|n=>n,fun|0=>0|3=>3|37=>33|70=>32|72=>35|5=>5|n=>n,fun|n=>n⟩
theorem Tryz.lays170:Go.Proofs.Lays.n170 Tryz.prog Tryz.lays170_ren:={
 mixed:=oK
 f170:=Tryz.func14.trans (congrArg some oK)
 t0:=Tryz.underlying0
 a0:=Tryz.isAgg0
 z0:=Tryz.sizeOf0
 v0:=Tryz.zeroValue0
 t3:=Tryz.underlying3
 a3:=Tryz.isAgg3
 z3:=Tryz.sizeOf3
 v3:=Tryz.zeroValue3
 t37:=Tryz.underlying33
 a37:=Tryz.isAgg33
 z37:=Tryz.sizeOf33
 v37:=Tryz.zeroValue33
 t70:=Tryz.underlying32
 a70:=Tryz.isAgg32
 z70:=Tryz.sizeOf32
 v70:=Tryz.zeroValue32
 t72:=Tryz.underlying35
 a72:=Tryz.isAgg35
 z72:=Tryz.sizeOf35
 v72:=Tryz.zeroValue35}
end Go.Proofs
namespace Go.Proofs.YtgocgdgknpdknaaGreatDoor
set_option linter.unusedSimpArgs false
set_option linter.unusedVariables false
open Go.RowKit Go.Shelf Go.Lib
def zi (w w':World) (T e b:Nat) (v:Value) (bs':List UInt8):Prop:=
 ∃ p' v',w'.heap[b]?=some (.cells #[p',v'] T (0,0))/\(p'= .pointer none\/p'= .pointer (some ⟨b,0,none⟩))/\w'.ownsRowF 0 e 1 v' bs'.length (Lib.byteCells bs')/\
  (∀ g,k9 v'=some g->w.heap.size<=g\/k9 v=some g)/\k9 v'≠some b/\tU w.heap.size (fun k=>k=b\/k9 v=some k) w w'
theorem wL (v:Value) {w:World} {e n:Nat} {xs:List Value} (h:w.ownsRowF 0 e 1 v n xs):v.ownBlock=k9 v:=by
 rcases h.2 with⟨rfl,_⟩|⟨g,cap,cur,fz,rfl,_⟩<;>rfl
theorem FH {v:Value} {w:World} {e n:Nat} {xs:List Value} (h:w.ownsRowF 0 e 1 v n xs) {g:Nat} (hg:k9 v=some g):g<w.heap.size:=(h.lt g (by rw[wL v h];exact hg)).2
theorem vC {P:Program} {f:FuncId} {T e:Nat} {bs bs':List UInt8} {az:List DV} {vs0:List Value} {u:Value} {res:SV} (hcall:lN P f=true)
  (has:∀ (w:World) (M:Nat->Prop) (vs:List Value) (F:List Nat),aj w M κ0 (az.map .d) vs F->vs=vs0/\F=[]) (has':∀ (w:World) (M:Nat->Prop),aj w M κ0 (az.map .d) vs0 []) (hres:∀ (w:World) (M:Nat->Prop),aJ w M κ0 res u [])
  (h:∀ (w:World) (b:Nat) (p v:Value),w.heap[b]?=some (.cells #[p,v] T (0,0))->(p= .pointer none\/p= .pointer (some ⟨b,0,none⟩))->w.ownsRowF 0 e 1 v bs.length (Lib.byteCells bs)->k9 v≠some b->
   Calls P f (.pointer (some ⟨b,0,none⟩)::vs0).toArray w fun ev w'=>ev= .returned u/\zi w w' T e b v bs'):
  cr P f (.own (.bld T e) (.str bs)::az.map .d) res (.own (.bld T e) (.str bs')::az.map .d):=by
 refine⟨hcall,fun w M vs F hM hF hn hv hg _=> ?_⟩
 unfold aj at hv
 obtain⟨u0,us,F1,F2,rfl,rfl,hv,hrest⟩:=hv
 obtain⟨rfl,rfl⟩:=has _ _ _ _ hrest
 unfold aJ ef at hv
 obtain⟨bs0,hbs,b,p,v,rfl,h1,h2,h3,rfl⟩:=hv
 simp only[DV.str.injEq] at hbs
 subst hbs
 simp only[Ka] at hn hF hM⊢
 have hne:k9 v≠some b:=fun he=>by
  have:=(K8.1 hn).1
  simp[eD,he] at this
 have hmem:∀ k,k∈b::eD v↔k=b\/k9 v=some k:=fun k=>by simp[eD]
 have hb:b<w.heap.size:=hF b oS
 refine(h w b p v h1 h2 h3 hne).mono ?_
 rintro ev w' ⟨rfl,p',v',k1,k2,k3,k4,k5,k6⟩
 refine⟨u,b::eD v',[],rfl, ?_,hres _ _, ?_, ?_,k6.mono (JW _) (fun k _ hk=>(hmem k).2 hk)⟩
 ·unfold aj
  refine⟨_,_,b::eD v',[],rfl,(Ka _).symm, ?_,has' _ _⟩
  unfold aJ ef
  exact⟨bs',rfl,b,p',v',rfl,k1,k2,k3,rfl⟩
 ·rw[Ka]
  refine K8.2 ⟨?_, ?_⟩
  ·intro hb';exact k5 (by simpa[eD] using hb')
  ·unfold eD;cases k9 v'<;>simp
 ·intro k hk
  simp only[Ka,J2] at hk
  rcases hk with rfl|hk
  ·exact⟨.inl oS,Kb hb k6.size⟩
  ·have hk':k9 v'=some k:=by simpa[eD] using hk
   refine⟨?_,FH k3 hk'⟩
   rcases k4 k hk' with h|h
   ·exact .inr h
   ·exact .inl ((hmem k).2 (.inr h))
section
variable {P:Program} (w:World)
theorem Br (t u ty e:TypeId) (i:TypeInfo) (ht:P.underlying t=some (.slice e)) (hu:P.underlying u=some .string) (hi:P.info? e=some i) (hz:i.zero=some (.int .u8 0)) (hsize:i.size=1) (hby:i.bytes=1)
  (v:Value) (n:Nat) (xs:List Value) (hown:w.ownsRowF 0 e 1 v n xs) (s:ByteArray) (hlim:n+s.size<=140737488355328):
  ∃ v' w',(Builtin.append_ #[t,u] ty #[v,.string s]).run P w= .ok v' w'/\w'.ownsRowF 0 e 1 v' (n+s.size) (xs++strCells s)/\w.grownBy w' v.ownBlock/\∀ b,k9 v'=some b->w.heap.size<=b\/k9 v=some b:=by
 obtain⟨v',w',hrun,h1,h2,h3⟩:=Lib.run_append_own_stringF (P:=P) w 0 t u ty e i ht hu hi hz hsize hby v n xs hown s (by unfold maxLen;omega) hlim (Kf _)
 refine⟨v',w',hrun,h1,h2,fun b hb=> ?_⟩
 rcases hown.2 with⟨hv,hn⟩|⟨g,cap,cur,fz,hv,_,hg,hfz,hnc,hcm,hcs,htake⟩
 ·by_cases hl:s.size=0
  ·rw[h3.2 ⟨hv,hl⟩] at hb
   simp[k9] at hb
  ·have:=run_append_nil_string (P:=P) w t u ty e i (.int .u8 0) ht hu hi hz s oM oM (by rw[hby];omega)
   rw[hv,this] at hrun
   simp only[Result.ok.injEq] at hrun
   rw[<-hrun.1] at hb
   simp[k9] at hb
   exact .inl oM
 ·rw[hv] at hrun⊢
  by_cases hroom:n+s.size<=cap
  ·have:=Lib.run_append_room_stringF (P:=P) w t u ty e i ht hu hi hsize g n cap cur fz hg (by simpa using hfz) s hroom oM
   rw[this] at hrun
   simp only[Result.ok.injEq] at hrun
   rw[<-hrun.1] at hb
   exact .inr hb
  ·have:=Lib.run_append_grow_string (P:=P) w t u ty e i (.int .u8 0) ht hu hi hz ⟨g,0,none⟩ n cap xs (by rw[hsize];simpa using hown.1) (hown.cells (g:=g) (by rw[hv];rfl)) s oM (by unfold maxLen at hcm;omega) (by rw[hby];exact growslice_fits oM (by unfold maxLen at hcm;omega))
   rw[this] at hrun
   simp only[Result.ok.injEq] at hrun
   rw[<-hrun.1] at hb
   simp[k9] at hb
   exact .inl oM
theorem x9 {ops:Array Oper} {rest:List Oper} {o:Oper} {a:Act} {Q:Exit->Act->World->Prop} (hgd:o.guard=none) (sl x:Operand) (t u:TypeId)
  (ho:o.op= .call {callee:= .builtin .append,args:= #[sl,x],argTypes:= #[t,u]})
  (e:TypeId) (i:TypeInfo) (ht:P.underlying t=some (.slice e)) (hu:P.underlying u=some .string) (hi:P.info? e=some i) (hz:i.zero=some (.int .u8 0)) (hsize:i.size=1) (hby:i.bytes=1)
  (v:Value) (n:Nat) (xs:List Value) (hs:a.eval sl=v) (hown:w.ownsRowF 0 e 1 v n xs) (s:ByteArray) (hx:a.eval x= .string s) (hlim:n+s.size<=140737488355328)
  (h:∀ v' w',w'.ownsRowF 0 e 1 v' (n+s.size) (xs++strCells s)->w.grownBy w' v.ownBlock->(∀ b,k9 v'=some b->w.heap.size<=b\/k9 v=some b)->wpList P ops Q rest (a.put o.dst v') w'):wpList P ops Q (o::rest) a w:=by
 refine wpList_plain hgd fun K hK=> ?_
 obtain⟨v',w',hr,h2,h3,h4⟩:=Br (P:=P) w t u o.type e i ht hu hi hz hsize hby v n xs hown s hlim
 unfold Oper.wp execOp
 simp only[ho,resolve,invoke,builtin,Sem.run_bind,Sem.run_pure,Result.andThen_ok,List.map_toArray,JZ,KX,hs,hx,hr]
 exact hK _ _ (h v' w' h2 h3 h4)
end
section
variable {P:Program} {ρ:Ren}
theorem Ec (L:Lays.n240 P ρ) (X:Builder.X72 P ρ) {b:Nat} {p v:Value} {w:World} (hb:w.heap[b]?=some (.cells #[p,v] (ρ.t 72) (0,0))) (hp:p= .pointer none\/p= .pointer (some ⟨b,0,none⟩)):
  Calls P (ρ.f 240) #[.pointer (some ⟨b,0,none⟩)] w fun e w'=>e= .returned (.tuple #[])/\w'.heap[b]?=some (.cells #[.pointer (some ⟨b,0,none⟩),v] (ρ.t 72) (0,0))/\(∀ k,k≠b->w'.heap[k]?=w.heap[k]?)/\w'.heap.size=w.heap.size/\w'.os=w.os/\w'.tape=w.tape/\w'.output=w.output:=by
 have h0:w.cell? ⟨b,0,none⟩=some p:=by rw[Lib.cell_of_heap hb];rfl
 rcases hp with rfl|rfl
 ·refine(Any.Builder_copyCheck_fresh L X b w h0 (by simp[World.shape?,hb]) (Lib.frozen_of_heap hb 0)).mono ?_
  rintro e w' ⟨rfl,rfl⟩
  refine⟨rfl, ?_,fun k hk=>Below.heap_setCell _ _ _ _ (fun e=>hk e),by simp[World.setCell],rfl,rfl,rfl⟩
  simp[World.setCell,Lz,hb]
 ·refine(Any.Builder_copyCheck_used L X b w h0).mono ?_
  rintro e w' ⟨rfl,rfl⟩
  exact⟨rfl,hb,fun _ _=>rfl,rfl,rfl,rfl,rfl⟩
set_option maxHeartbeats 2000000 in
set_option maxRecDepth 100000 in
theorem Ed (L:Lays.n166 P ρ) (X:Builder.Extra P ρ) {b:Nat} {p v:Value} {bs:List UInt8} {s:List UInt8} {w:World} (hb:w.heap[b]?=some (.cells #[p,v] (ρ.t 72) (0,0))) (hp:p= .pointer none\/p= .pointer (some ⟨b,0,none⟩))
  (hown:w.ownsRowF 0 (ρ.t 5) 1 v bs.length (Lib.byteCells bs)) (hne:k9 v≠some b) (hlen:bs.length+s.length<=140737488355328):
  Calls P (ρ.f 166) #[.pointer (some ⟨b,0,none⟩),.string ⟨s.toArray⟩] w fun e w'=>e= .returned (.tuple #[.int .i64 s.length,.nilIface])/\zi w w' (ρ.t 72) (ρ.t 5) b v (bs++s):=by
 obtain⟨i0,hi,hz0,hz1,hz2⟩:=info_parts X.infoByte
 have mixed:=L.mixed
 have t72:=L.t72;have a72:=L.a72;have z72:=L.z72;have v72:=L.v72;have u72:=run_underlying L.t72
 have t70:=L.t70;have a70:=L.a70;have z70:=L.z70;have v70:=L.v70;have u70:=run_underlying L.t70
 have t37:=L.t37;have a37:=L.a37;have z37:=L.z37;have v37:=L.v37;have u37:=run_underlying L.t37
 have t3:=L.t3;have a3:=L.a3;have z3:=L.z3;have v3:=L.v3;have u3:=run_underlying L.t3
 have t9:=L.t9;have a9:=L.a9;have z9:=L.z9;have v9:=L.v9;have u9:=run_underlying L.t9
 have t4:=L.t4;have a4:=L.a4;have z4:=L.z4;have v4:=L.v4;have u4:=run_underlying L.t4
 have t164:=L.t164;have a164:=L.a164;have z164:=L.z164;have v164:=L.v164;have u164:=run_underlying L.t164
 have t5:=X.t5;have a5:=X.a5;have z5:=X.z5;have v5:=X.v5;have u5:=run_underlying X.t5
 have e240:∀ args w,(callFunc (ρ.f 240) args).run P w= .ok (.enter (ρ.f 240) args) w:=enters_of L.f240 oK rfl
 have hsl:(⟨s.toArray⟩:ByteArray).size=s.length:=by simp[ByteArray.size]
 have hlt:b<w.heap.size:=(Kn.1 hb).1
 have hob:=wL v hown
 go_enter L.f166,Body.n166_ntmps ρ
 go_wp2_with (go_at_fn (ρ.f 240);refine(Ec {L with} X.toX72 hb hp).mono ?_)
 rintro e w1 ⟨rfl,hbk,hk1,hs1,ho1,ht1,hu1⟩
 have hown1:w1.ownsRowF 0 (ρ.t 5) 1 v bs.length (Lib.byteCells bs):=mP (fun k hk=>hk1 k fun e=>hne (by rw[<-e];simpa[eD] using hk)) hown
 have c0:w1.cell? ⟨b,0,none⟩=some (.pointer (some ⟨b,0,none⟩)):=by rw[Lib.cell_of_heap hbk];rfl
 have c1:w1.cell? ⟨b,1,none⟩=some v:=by rw[Lib.cell_of_heap hbk];rfl
 go_wp2_with (at_builtin;refine x9 _ rfl _ _ (ρ.t 37) (ρ.t 9) rfl (ρ.t 5) i0 L.t37 L.t9 hi hz0 hz1 hz2 _ _ _ rfl hown1 ⟨s.toArray⟩ rfl ?c3 ?_)
 case c3=>omega
 intro v' w2 hown' hgrow hblk
 have hb2:w2.heap[b]?=some (.cells #[.pointer (some ⟨b,0,none⟩),v] (ρ.t 72) (0,0)):=by
  rw[hgrow.block b oM (fun e=>hne (by first|exact e.symm|(rw[<-hob];exact e.symm)))]
  exact hbk
 have d0:w2.cell? ⟨b,0,none⟩=some (.pointer (some ⟨b,0,none⟩)):=by rw[Lib.cell_of_heap hb2];rfl
 have d1:w2.cell? ⟨b,1,none⟩=some v:=by rw[Lib.cell_of_heap hb2];rfl
 have f1:w2.frozen? ⟨b,1,none⟩=false:=Lib.frozen_of_heap hb2 1
 have hob':=wL v' hown'
 have hnb:k9 v'≠some b:=fun he=>by
  rcases hblk b he with h|h
  ·omega
  ·exact hne h
 have hcells:Lib.byteCells bs++strCells ⟨s.toArray⟩=Lib.byteCells (bs++s):=by
  simp[Lib.byteCells,Lib.strCells]
 rw[hcells] at hown'
 try rw[hsl] at hown'
 obtain⟨ao,n',cap,rfl⟩:∃ ao n' cap,v'= .slice ao n' cap:=by
  rcases hown'.2 with⟨hv,_⟩|⟨g,cap,cur,fz,hv,_⟩
  ·exact⟨_,_,_,hv⟩
  ·exact⟨_,_,_,hv⟩
 go_wp2
 go_ret2
 refine⟨by first|rfl|(rw[hsl];rfl),.pointer (some ⟨b,0,none⟩),_, ?_,.inr rfl, ?_, ?_,hnb, ?_⟩
 ·simp[World.setCell,Lz,hb2]
 ·rw[JR]
  refine mP (fun k hk=>Below.heap_setCell _ _ _ _ (fun e=>hnb ?_)) hown'
  have:k9 (Value.slice ao n' cap)=some k:=by simpa[eD] using hk
  rw[this];exact congrArg some e
 ·intro g hg
  rcases hblk g hg with h|h
  ·exact .inl oM
  ·exact .inr h
 ·refine⟨hgrow.os.trans ho1,hgrow.tape.trans ht1,hgrow.output.trans hu1, ?_, ?_⟩
  ·have:=hgrow.size
   simp[World.setCell];omega
  ·intro k hk hnk
   have h1:k≠b:=fun e=>hnk (.inl e)
   have h2:k9 v≠some k:=fun e=>hnk (.inr e)
   have e1:=Below.heap_setCell w2 ⟨b,1,none⟩ (.slice ao n' cap) k (fun e=>h1 e)
   rw[e1,hgrow.block k oM (fun e=>h2 (by first|exact e.symm|(rw[<-hob];exact e.symm)))]
   exact hk1 k h1
theorem Bs {w w':World} {T e b:Nat} {p v:Value} {bs:List UInt8} (hb:w.heap[b]?=some (.cells #[p,v] T (0,0))) (hp:p= .pointer none\/p= .pointer (some ⟨b,0,none⟩)) (hown:w.ownsRowF 0 e 1 v bs.length (Lib.byteCells bs)) (hne:k9 v≠some b) (h:Below w.heap.size w w'):zi w w' T e b v bs:=by
 have hlt:b<w.heap.size:=(Kn.1 hb).1
 exact⟨p,v,by rw[h.block b hlt];exact hb,hp,mP (fun k hk=>h.block k (FH hown (by simpa[eD] using hk))) hown,fun g hg=> .inr hg,hne,tU.of_below h⟩
set_option maxHeartbeats 2000000 in
set_option maxRecDepth 100000 in
theorem Cw (L:Lays.n169 P ρ) (X:Builder.Extra P ρ) {b g:Nat} {p:Value} {cur:Array Value} {w:World} {fz:Nat×Nat} (hbk:w.heap[b]?=some (.cells #[p,.slice (some ⟨g,0,none⟩) 0 0] (ρ.t 72) (0,0))) (hg:w.heap[g]?=some (.cells cur (ρ.t 5) fz)):
  Calls P (ρ.f 169) #[.pointer (some ⟨b,0,none⟩)] w fun e w'=>e= .returned (.string ⟨#[]⟩)/\Below w.heap.size w w':=by
 have hUS:=Any.unsafeString_none L X
 have hlt:b<w.heap.size:=(Kn.1 hbk).1
 have c1:w.drew.cell? ⟨b,1,none⟩=some (.slice (some ⟨g,0,none⟩) 0 0):=by
  have:w.drew.heap[b]?=some (.cells #[p,.slice (some ⟨g,0,none⟩) 0 0] (ρ.t 72) (0,0)):=hbk
  rw[Lib.cell_of_heap this];rfl
 have hSD:(Builtin.unsafeSliceData_ #[(ρ.t 37)] (ρ.t 127) #[.slice (some ⟨g,0,none⟩) 0 0]).run P w.drew= .ok (.pointer (some ⟨w.drew.heap.size,0,none⟩)) (w.drew.alloc (.view ⟨g,0,none⟩ (ρ.t 5))):=
  Lib.run_unsafeSliceData_zero w.drew _ _ (ρ.t 5) L.t127 ⟨g,0,none⟩ 0 ((ρ.t 5),cur.size) (by have hg':w.drew.heap[g]?=some (.cells cur (ρ.t 5) fz):=hg;simp[World.shape?,hg'])
 have c2:(w.drew.alloc (.view ⟨g,0,none⟩ (ρ.t 5))).cell? ⟨b,1,none⟩=some (.slice (some ⟨g,0,none⟩) 0 0):=by
  have:(w.drew.alloc (.view ⟨g,0,none⟩ (ρ.t 5))).heap[b]?=_:=(Lib.alloc_old w.drew _ b hlt).trans hbk
  rw[Lib.cell_of_heap this];rfl
 have c3:(w.alloc (.view ⟨g,0,none⟩ (ρ.t 5))).drew.cell? ⟨b,1,none⟩=some (.slice (some ⟨g,0,none⟩) 0 0):=c2
 have c0:w.cell? ⟨b,1,none⟩=some (.slice (some ⟨g,0,none⟩) 0 0):=c1
 have mixed:=L.mixed
 have t72:=L.t72;have a72:=L.a72;have z72:=L.z72;have v72:=L.v72;have u72:=run_underlying L.t72
 have t70:=L.t70;have a70:=L.a70;have z70:=L.z70;have v70:=L.v70;have u70:=run_underlying L.t70
 have t37:=L.t37;have a37:=L.a37;have z37:=L.z37;have v37:=L.v37;have u37:=run_underlying L.t37
 have t127:=L.t127;have a127:=L.a127;have z127:=L.z127;have v127:=L.v127;have u127:=run_underlying L.t127
 have t3:=L.t3;have a3:=L.a3;have z3:=L.z3;have v3:=L.v3;have u3:=run_underlying L.t3
 have t9:=L.t9;have a9:=L.a9;have z9:=L.z9;have v9:=L.v9;have u9:=run_underlying L.t9
 have t5:=X.t5;have a5:=X.a5;have z5:=X.z5;have v5:=X.v5;have u5:=run_underlying X.t5
 go_enter L.f169,Body.n169_ntmps ρ
 go_wp2
 go_region_o
 all_goals(go_wp2;go_ret;exact⟨rfl,(Below.drew (Below.refl _ w)).alloc (JW _) _⟩)
theorem Cy {w:World} {T e b g cap:Nat} {p:Value} {bs:List UInt8} (hb:w.heap[b]?=some (.cells #[p,.slice (some ⟨g,0,none⟩) bs.length cap] T (0,0))) (hp:p= .pointer none\/p= .pointer (some ⟨b,0,none⟩)) (hown:w.ownsRowF 0 e 1 (.slice (some ⟨g,0,none⟩) bs.length cap) bs.length (Lib.byteCells bs)) (hne:g≠b):
  zi w (w.drew.freeze ⟨g,0,none⟩ bs.length) T e b (.slice (some ⟨g,0,none⟩) bs.length cap) bs:=by
 have hA:Lib.BuilderAtF T e 0 b p (Lib.byteCells bs) w.drew:=⟨Kf _,_,hb,by rw[Lib.byteCells_length];exact hown,by simpa[Value.ownBlock] using hne⟩
 have c1:w.drew.cell? ⟨b,1,none⟩=some (.slice (some ⟨g,0,none⟩) (Lib.byteCells bs).length cap):=by
  have:w.drew.heap[b]?=some (.cells #[p,.slice (some ⟨g,0,none⟩) bs.length cap] T (0,0)):=hb
  rw[Lib.cell_of_heap this,Lib.byteCells_length];rfl
 obtain⟨_,v0,h1,h2,h3⟩:=hA.froze (g:=g) (cap:=cap) c1
 rw[Lib.byteCells_length] at h1 h2
 have hz:(w.drew.freeze ⟨g,0,none⟩ bs.length).heap[b]?=w.heap[b]?:=by
  unfold World.freeze
  split
  ·rfl
  ·simp only[Lz]
   rw[if_neg hne];rfl
 have hv:v0= .slice (some ⟨g,0,none⟩) bs.length cap:=by
  rw[hz,hb] at h1
  simp at h1
  exact h1.symm
 subst hv
 refine⟨p,_,h1,hp,h2,fun k hk=> .inr hk,by simpa[k9] using hne,by unfold World.freeze;split<;>rfl,by unfold World.freeze;split<;>rfl,by unfold World.freeze;split<;>rfl, ?_,fun k hk hnk=> ?_⟩
 ·unfold World.freeze;split
  ·exact JW _
  ·simp only[Array.size_modify];exact JW _
 ·have hkg:g≠k:=fun e=>hnk (.inr (by rw[<-e];rfl))
  unfold World.freeze
  split
  ·rfl
  ·simp only[Lz]
   rw[if_neg hkg];rfl
set_option maxHeartbeats 2000000 in
set_option maxRecDepth 100000 in
theorem Cz (L:Lays.n169 P ρ) (X:Builder.Extra P ρ) {b:Nat} {p v:Value} {bs:List UInt8} {w:World} (hb:w.heap[b]?=some (.cells #[p,v] (ρ.t 72) (0,0))) (hp:p= .pointer none\/p= .pointer (some ⟨b,0,none⟩))
  (hown:w.ownsRowF 0 (ρ.t 5) 1 v bs.length (Lib.byteCells bs)) (hne:k9 v≠some b):
  Calls P (ρ.f 169) #[.pointer (some ⟨b,0,none⟩)] w fun e w'=>e= .returned (.string ⟨bs.toArray⟩)/\zi w w' (ρ.t 72) (ρ.t 5) b v bs:=by
 by_cases h0:bs=[]
 ·subst h0
  have fin:∀ (e:Ending) (w':World),(e= .returned (.string ⟨#[]⟩)/\Below w.heap.size w w')->e= .returned (.string ⟨([]:List UInt8).toArray⟩)/\zi w w' (ρ.t 72) (ρ.t 5) b v []:=fun e w' h=>⟨h.1,Bs hb hp hown hne h.2⟩
  rcases hown.2 with⟨rfl,_⟩|⟨g,cap,cur,fz,rfl,_,hg,_⟩
  ·exact(Any.Builder_String_nil L X w.heap.size b p w hb).mono fin
  ·by_cases hc:cap=0
   ·subst hc
    exact(Cw L X hb hg).mono fin
   ·exact(Any.Builder_String_room L X w.heap.size b g cap p w hc hb).mono fin
 ·have hl0:bs.length≠0:=by simpa using h0
  obtain⟨g,cap,cur,fz,rfl,hbg,hg,hfz,hnc,hcm,hcs,htake⟩:∃ g cap cur fz,v= .slice (some ⟨g,0,none⟩) bs.length cap/\0<=g/\w.heap[g]?=some (.cells cur (ρ.t 5) fz)/\fz.2<=bs.length * 1/\bs.length<=cap/\cap<=maxLen/\cur.size=cap * 1/\cur.toList.take (bs.length * 1)=Lib.byteCells bs:=by
   rcases hown.2 with⟨_,hz⟩|⟨g,cap,cur,fz,hv,r⟩
   ·exact absurd hz hl0
   ·exact⟨g,cap,cur,fz,hv,r⟩
  have hfin:=Cy hb hp hown (fun e=>hne (by rw[<-e];rfl))
  have c1:w.drew.cell? ⟨b,1,none⟩=some (.slice (some ⟨g,0,none⟩) bs.length cap):=by
   have:w.drew.heap[b]?=some (.cells #[p,.slice (some ⟨g,0,none⟩) bs.length cap] (ρ.t 72) (0,0)):=hb
   rw[Lib.cell_of_heap this];rfl
  have hSD:(Builtin.unsafeSliceData_ #[(ρ.t 37)] (ρ.t 127) #[.slice (some ⟨g,0,none⟩) bs.length cap]).run P w.drew= .ok (.pointer (some ⟨g,0,none⟩)) w.drew:=
   Lib.run_unsafeSliceData_row _ _ _ _ _ _ oM
  have hUS:(Builtin.unsafeString_ #[(ρ.t 127),(ρ.t 3)] (ρ.t 9) #[.pointer (some ⟨g,0,none⟩),.int .i64 bs.length]).run P w.drew= .ok (.string ⟨bs.toArray⟩) (w.drew.freeze ⟨g,0,none⟩ bs.length):=by
   refine Lib.run_unsafeString_row w.drew (ρ.t 127) (ρ.t 3) (ρ.t 9) (ρ.t 5) L.t127 X.cellsByte g cur.size (by have hg':w.drew.heap[g]?=some (.cells cur (ρ.t 5) fz):=hg;simp[World.shape?,hg']) bs h0 oM (by unfold maxLen at hcm;omega) ?_
   intro j x hx
   have:=hown.cells (g:=g) rfl j (.int .u8 x.toNat) (by simp[Lib.byteCells,hx])
   exact this
  have mixed:=L.mixed
  have t72:=L.t72;have a72:=L.a72;have z72:=L.z72;have v72:=L.v72;have u72:=run_underlying L.t72
  have t70:=L.t70;have a70:=L.a70;have z70:=L.z70;have v70:=L.v70;have u70:=run_underlying L.t70
  have t37:=L.t37;have a37:=L.a37;have z37:=L.z37;have v37:=L.v37;have u37:=run_underlying L.t37
  have t127:=L.t127;have a127:=L.a127;have z127:=L.z127;have v127:=L.v127;have u127:=run_underlying L.t127
  have t3:=L.t3;have a3:=L.a3;have z3:=L.z3;have v3:=L.v3;have u3:=run_underlying L.t3
  have t9:=L.t9;have a9:=L.a9;have z9:=L.z9;have v9:=L.v9;have u9:=run_underlying L.t9
  have t5:=X.t5;have a5:=X.a5;have z5:=X.z5;have v5:=X.v5;have u5:=run_underlying X.t5
  go_enter L.f169,Body.n169_ntmps ρ
  go_wp2
  go_region_o
  all_goals(go_wp2;go_ret;exact⟨rfl,hfin⟩)
end
theorem GM:Builder.Extra Tryz.prog Tryz.lays166_ren where
 sizeBuilder:=oK
 liesBuilder:=oK
 t5:=Tryz.underlying5
 a5:=Tryz.isAgg5
 z5:=Tryz.sizeOf5
 v5:=Tryz.zeroValue5
 infoByte:=oK
 cellsByte:=oK
 sizeByte:=oK
 neB5:=by decide
theorem GN:Builder.Extra Tryz.prog Tryz.lays169_ren where
 sizeBuilder:=oK
 liesBuilder:=oK
 t5:=Tryz.underlying5
 a5:=Tryz.isAgg5
 z5:=Tryz.sizeOf5
 v5:=Tryz.zeroValue5
 infoByte:=oK
 cellsByte:=oK
 sizeByte:=oK
 neB5:=by decide
def cf (b s:List UInt8):Option (Int×List UInt8):=if b.length+s.length<=137438953472 then some ((s.length:Int),b++s) else none
def gJ (b:List UInt8):Option (Int×List UInt8):=some ((b.length:Int),b)
def ju (b:List UInt8):Option (List UInt8×List UInt8):=some (b,b)
theorem Dd (w:World) (M:Nat->Prop) (vs:List Value) (F:List Nat) (h:aj w M κ0 (([]:List DV).map .d) vs F):vs=[]/\F=[]:=by
 simpa[aj] using h
theorem Bt (w:World) (M:Nat->Prop):aj w M κ0 (([]:List DV).map .d) [] []:=by simp[aj]
theorem GO (s:List UInt8) (w:World) (M:Nat->Prop) (vs:List Value) (F:List Nat) (h:aj w M κ0 (([.str s]:List DV).map .d) vs F):vs=[.string ⟨s.toArray⟩]/\F=[]:=by
 simp only[JZ,KX,aj,aJ,ae,aD] at h
 obtain⟨u,us,F1,F2,rfl,rfl,⟨rfl,rfl⟩,rfl,rfl⟩:=h
 exact⟨rfl,rfl⟩
theorem FI (s:List UInt8) (w:World) (M:Nat->Prop):aj w M κ0 (([.str s]:List DV).map .d) [.string ⟨s.toArray⟩] []:=by
 simp only[JZ,KX,aj,aJ,ae,aD]
 exact⟨_,_,[],[],rfl,rfl,⟨rfl,rfl⟩,rfl,rfl⟩
theorem cO (x0 x1:List UInt8):∀ r,cf x0 x1=some r->cr Tryz.prog 9 (.own (.bld 35 5) (.str x0)::List.map SV.d ([.str x1]:List DV)) (.tup [.d (.int .i64 r.1),.d (.raw .nilIface)]) (.own (.bld 35 5) (.str r.2)::List.map SV.d ([.str x1]:List DV)):=by
 intro r hr
 unfold cf at hr
 split at hr
 ·rename_i hlen
  cases hr
  refine vC oK (GO x1) (FI x1) (u:= .tuple #[.int .i64 x1.length,.nilIface]) (fun w M=> ?_) (fun w b p v h1 h2 h3 h4=>Ed Tryz.lays166 GM h1 h2 h3 h4 oM)
  unfold aJ
  refine⟨[.int .i64 x1.length,.nilIface],rfl, ?_⟩
  simp only[aj,aJ,ae,aD]
  exact⟨_,_,[],[],rfl,rfl,⟨rfl,rfl⟩,_,_,[],[],rfl,rfl,⟨rfl,rfl⟩,rfl,rfl⟩
 ·cases hr
theorem m_ (x0:List UInt8):∀ r,ju x0=some r->cr Tryz.prog 16 (.own (.bld 35 5) (.str x0)::List.map SV.d ([]:List DV)) (.d (.str r.1)) (.own (.bld 35 5) (.str r.2)::List.map SV.d ([]:List DV)):=by
 intro r hr
 cases hr
 exact vC oK Dd Bt (u:= .string ⟨x0.toArray⟩) (fun w M=>by unfold aJ ae aD;exact⟨rfl,rfl⟩) (fun w b p v h1 h2 h3 h4=>Cz Tryz.lays169 GN h1 h2 h3 h4)
theorem pk (x0:List UInt8):∀ r,gJ x0=some r->cr Tryz.prog 14 (.own (.bld 35 5) (.str x0)::List.map SV.d ([]:List DV)) (.d (.int .i64 r.1)) (.own (.bld 35 5) (.str r.2)::List.map SV.d ([]:List DV)):=by
 intro r hr
 cases hr
 refine vC oK Dd Bt (u:= .int .i64 x0.length) (fun w M=>by unfold aJ ae aD;exact⟨rfl,rfl⟩) (fun w b p v h1 h2 h3 h4=> ?_)
 have hB:Lib.IsBuilderF 35 5 0 b (Lib.byteCells x0) w:=by
  have:=wL v h3
  have hA:∀ q,p=q->Lib.BuilderAtF 35 5 0 b q (Lib.byteCells x0) w:=fun q hq=>⟨Kf _,v,by rw[<-hq];exact h1,by rw[Lib.byteCells_length];exact h3,by rw[this];exact h4⟩
  rcases h2 with h|h
  ·exact .inl (hA _ h)
  ·exact .inr (hA _ h)
 refine(Any.Builder_Len_f Tryz.lays170 0 b _ w hB).mono ?_
 rintro e w' ⟨rfl,rfl⟩
 exact⟨by rw[Lib.byteCells_length],Bs h1 h2 h3 h4 (Below.refl _ _)⟩
section
variable {P:Program} {K:St->Prop} {sos:List SO} {s:Nat->SV} {h:Nat->Ch}
theorem I0 {Y R:Type} {r:R} {a:Option Y} {k:Y->Option R} {dst f id T e:Nat} {args:List SX} {E:Y->SV} {G:Y->List UInt8} {ci:List UInt8} {as0 az:List DV} {gs:List SV}
  (hm:a.bind k=some r) (hx:args.map (ev s)= .ref id 0::gs) (hgs:SV.toDVs gs=some as0) (hh:h id= .bld T e ci)
  (hs:∀ y,a=some y->cr P f (.own (.bld T e) (.str ci)::az.map .d) (E y) (.own (.bld T e) (.str (G y))::az.map .d)) (he:as0=az) (henc:∀ y,(E y).closed=true/\(E y).nOwn=0)
  (hk:∀ y,k y=some r->aR P K sos ⟨aI s dst (E y),aI h id (.bld T e (G y))⟩):aR P K (.p (some dst) (.f f) args::sos) ⟨s,h⟩:=by
 subst he
 cases hy:a with
 |none=>rw[hy] at hm;cases hm
 |some y=>
  rw[hy] at hm
  obtain⟨c1,c2⟩:=henc y
  refine Jk (σ1:=⟨s,h⟩) (L:=[(id,.bld T e (G y))]) (hY.refl _) (hs y hy) c1 ?_ (s':=aI s dst (E y)) (h':=aI h id (.bld T e (G y))) ?_ (hk y hm)
  ·rw[hx]
   exact .ptr (ch:= .bld T e ci) (mk:=fun id=> .ref id 0) (ch':= .bld T e (G y)) (mk':=fun id=> .ref id 0) rfl (by simp only[dx]) rfl hh oS (py hgs)
  ·simp only[takes,c2,K4,hE]
theorem Jt {Y R:Type} {r:R} {a:Option Y} {k:Y->Option R} {dst f id T e:Nat} {args:List SX} {late:List (Nat×Nat×qK)} {E:Y->SV} {G:Y->List UInt8} {ci:List UInt8} {as0 az:List DV} {gs:List SV}
  (hm:a.bind k=some r) (hx:args.map (ev s)= .ref id 0::gs) (hgs:SV.toDVs gs=some as0) (hh:h id= .bld T e ci)
  (hs:∀ y,a=some y->cr P f (.own (.bld T e) (.str ci)::az.map .d) (E y) (.own (.bld T e) (.str (G y))::az.map .d)) (he:as0=az) (henc:∀ y,(E y).closed=true/\(E y).nOwn=0)
  (hl:∀ y,yx ⟨aI s dst (E y),aI h id (.bld T e (G y))⟩ late) (hk:∀ y,k y=some r->aR P K sos ⟨aI s dst (E y),aI h id (.bld T e (G y))⟩):aR P K (.q dst (.f f) args late::sos) ⟨s,h⟩:=by
 subst he
 cases hy:a with
 |none=>rw[hy] at hm;cases hm
 |some y=>
  rw[hy] at hm
  obtain⟨c1,c2⟩:=henc y
  refine⟨f,_,_,_,[(id,.bld T e (G y))],_,rfl,hs y hy,c1, ?_, ?_,hl y,hk y hm⟩
  ·show HandL h (args.map (ev s)) _ _ _
   rw[hx]
   exact .ptr (ch:= .bld T e ci) (mk:=fun id=> .ref id 0) (ch':= .bld T e (G y)) (mk':=fun id=> .ref id 0) rfl (by simp only[dx]) rfl hh oS (py hgs)
  ·simp only[takes,c2,K4,hE]
theorem GP {A:Type} {r:A×List UInt8} {a:A} {x0:List UInt8} {N n T e:Nat} {qs:List RV} {E:A×List UInt8->SV} {az ds:List DV} {gs xs:List SV}
  (hm:some (a,x0)=some r) (hh:h 0= .bld T e x0) (hg:mf N ⟨s,h⟩ n= .ref 0 0::gs) (hgs:SV.toDVs gs=some az)
  (hq:Fp ⟨s,h⟩ qs=some xs) (hxs:SV.toDVs xs=some ds) (he:E (a,x0)=qX (ds.map .d)):z1 N n qs (E r) (.own (.bld T e) (.str r.2)::az.map .d) .normal ⟨s,h⟩:=by
 cases hm
 have hxl:∀ {xs:List SV} {ds:List DV},SV.toDVs xs=some ds->ds.length=xs.length:=by
  intro xs
  induction xs with
  |nil=>intro ds hd;simp only[SV.toDVs,JN] at hd;subst hd;rfl
  |cons x xs ih=>
   intro ds hd
   unfold SV.toDVs at hd
   split at hd
   ·rename_i d ds' h1 h2
    simp only[JN] at hd;subst hd
    simp[ih h2]
   ·cases hd
 refine⟨⟨s,h⟩,hY.refl _,xs,ds.map .d,[0],hq,he,by simp[hxl hxs], ?_⟩
 rw[hg]
 have hall:∀ {gs:List SV} {az:List DV},SV.toDVs gs=some az->SV.toDVs (gs++xs)=some (az++ds):=by
  intro gs
  induction gs with
  |nil=>intro az hd;simp only[SV.toDVs,JN] at hd;subst hd;simpa using hxs
  |cons g gs ih=>
   intro az hd
   unfold SV.toDVs at hd
   split at hd
   ·rename_i d az' h1 h2
    simp only[JN] at hd;subst hd
    simp only[J5,SV.toDVs,h1,ih h2]
   ·cases hd
 rw[J5,J5,<-LH]
 exact .own (ch:= .bld T e x0) (mk:=fun id=> .ref id 0) rfl (by simp only[dx]) hh oS (uk (hall hgs))
end
theorem Bu {P:Program} {f N k T e:Nat} {fn:Func} {x:SC} {qs:List RV} {bs:List UInt8} {az:List DV} {res:SV} {outs:List SV} (hf:P.funcs[f]?=some fn) (hfit:fits P f fn x qs k=true) (hN:fn.ntmps=N) (hk:az.length+1=k) (hol:outs.length=k) (hpos:0<N)
  (h:AW P x (z1 N k qs res outs) ⟨Cv N az,aI (fun _=> .dead) 0 (.bld T e bs)⟩):cr P f (.own (.bld T e) (.str bs)::az.map .d) res outs:=by
 subst hN hk
 have hlen:(SV.own (.bld T e) (.str bs)::az.map SV.d).length=az.length+1:=by simp
 refine tn (x:=x) (qs:=qs) hf (by rw[hlen];exact hfit) ?_ (by rw[hlen];exact hol) ?_
 ·simp only[Lk,y9,b_,Option.isSome_some,J6]
  rw[Ke]
  intro y hy
  obtain⟨d,_,rfl⟩:=Kw.1 hy
  rfl
 ·rw[hlen]
  have e1:xI fn.ntmps (.own (.bld T e) (.str bs)::az.map .d)=Cv fn.ntmps az:=by
   funext j
   unfold xI Cv
   by_cases h0:j=0
   ·subst h0;simp[hpos,qw,b_]
   ·obtain⟨i,rfl⟩:∃ i,j=i+1:=⟨j - 1,by omega⟩
    by_cases hlt:i+1<fn.ntmps
    ·simp only[hlt,K4,Kq,Kh,Li]
     rw[if_neg oM]
     cases az[i]?<;>simp[qw]
    ·simp only[hlt,KG]
     rw[if_neg oM]
     by_cases he:i+1=fn.ntmps
     ·simp only[he,K4,LK,K3];simp[qw,b_]
     ·obtain⟨q,hq⟩:∃ q,i+1 - fn.ntmps=q+1:=⟨i+1 - fn.ntmps - 1,by omega⟩
      simp only[he,KG,hq,Kq,Kh,Li]
      cases az[q]?<;>simp[qw]
  have e2:yy (.own (.bld T e) (.str bs)::az.map .d)=aI (fun _=> .dead) 0 (.bld T e bs):=by
   funext j
   unfold yy
   cases j with
   |zero=>simp[aI,xH,b_]
   |succ j=>
    simp only[Kq,Kh,aI]
    rw[if_neg oM]
    cases az[j]?<;>simp[xH]
  rw[e1,e2];exact h
end Go.Proofs.YtgocgdgknpdknaaGreatDoor
namespace Go.Proofs
open Go.Proofs.YtgocgdgknpdknaaGreatDoor
open Go.Shelf
def Tryz.lays156_ren:Go.Shelf.Ren:=⟨fun|156=>33|165=>52|166=>9|169=>16|240=>32|241=>77|276=>51|277=>99|n=>n,fun|0=>0|3=>3|4=>4|9=>9|20=>20|31=>49|37=>33|70=>32|72=>35|75=>37|76=>38|127=>82|164=>98|5=>5|80=>55|n=>n,fun|n=>n⟩
theorem Tryz.lays156:Go.Proofs.Lays.n156 Tryz.prog Tryz.lays156_ren:={
 mixed:=oK
 f156:=Tryz.func33.trans (congrArg some oK)
 f165:=Tryz.func52.trans (congrArg some oK)
 f166:=Tryz.func9.trans (congrArg some oK)
 f169:=Tryz.func16.trans (congrArg some oK)
 f240:=Tryz.func32.trans (congrArg some oK)
 f241:=Tryz.func77.trans (congrArg some oK)
 f276:=Tryz.func51.trans (congrArg some oK)
 f277:=Tryz.func99.trans (congrArg some oK)
 t0:=Tryz.underlying0
 a0:=Tryz.isAgg0
 z0:=Tryz.sizeOf0
 v0:=Tryz.zeroValue0
 t3:=Tryz.underlying3
 a3:=Tryz.isAgg3
 z3:=Tryz.sizeOf3
 v3:=Tryz.zeroValue3
 t4:=Tryz.underlying4
 a4:=Tryz.isAgg4
 z4:=Tryz.sizeOf4
 v4:=Tryz.zeroValue4
 t9:=Tryz.underlying9
 a9:=Tryz.isAgg9
 z9:=Tryz.sizeOf9
 v9:=Tryz.zeroValue9
 t20:=Tryz.underlying20
 a20:=Tryz.isAgg20
 z20:=Tryz.sizeOf20
 v20:=Tryz.zeroValue20
 t31:=Tryz.underlying49
 a31:=Tryz.isAgg49
 z31:=Tryz.sizeOf49
 v31:=Tryz.zeroValue49
 t37:=Tryz.underlying33
 a37:=Tryz.isAgg33
 z37:=Tryz.sizeOf33
 v37:=Tryz.zeroValue33
 t70:=Tryz.underlying32
 a70:=Tryz.isAgg32
 z70:=Tryz.sizeOf32
 v70:=Tryz.zeroValue32
 t72:=Tryz.underlying35
 a72:=Tryz.isAgg35
 z72:=Tryz.sizeOf35
 v72:=Tryz.zeroValue35
 t75:=Tryz.underlying37
 a75:=Tryz.isAgg37
 z75:=Tryz.sizeOf37
 v75:=Tryz.zeroValue37
 t76:=Tryz.underlying38
 a76:=Tryz.isAgg38
 z76:=Tryz.sizeOf38
 v76:=Tryz.zeroValue38
 t127:=Tryz.underlying82
 a127:=Tryz.isAgg82
 z127:=Tryz.sizeOf82
 v127:=Tryz.zeroValue82
 t164:=Tryz.underlying98
 a164:=Tryz.isAgg98
 z164:=Tryz.sizeOf98
 v164:=Tryz.zeroValue98}
end Go.Proofs
namespace Go.Proofs.YtgocgdgknpdknaaGreatDoor
set_option linter.unusedSimpArgs false
set_option linter.unusedVariables false
open Go.RowKit Go.Shelf
theorem Bv:Builder.Extra Tryz.prog Tryz.lays156_ren where
 sizeBuilder:=oK
 liesBuilder:=oK
 t5:=Tryz.underlying5
 a5:=Tryz.isAgg5
 z5:=Tryz.sizeOf5
 v5:=Tryz.zeroValue5
 infoByte:=oK
 cellsByte:=oK
 sizeByte:=oK
 neB5:=by decide
theorem x_ {w:World} {M:Nat->Prop} {b:Nat}:∀ (xs:List (List UInt8)) (o sz:Nat),aE w M (xs.map eK) b o sz->∀ j x,(xs.map fun s=>(⟨s.toArray⟩:ByteArray))[j]?=some x->w.cell? ⟨b,o+j,none⟩=some (.string x)
 |[],_,_,_,j,x,h=>by simp at h
 |s::xs,o,sz,hr,j,x,h=>by
  simp only[JZ] at hr
  unfold aE at hr
  obtain⟨h1,h2,h3⟩:=hr
  have e:sz=1:=h1.symm
  subst e
  cases j with
  |zero=>
   simp at h;subst h
   unfold eK aZ at h2
   obtain⟨⟨v,hc,_,hv⟩,_⟩:=h2
   unfold aD at hv
   rw[Lg,hc,hv]
  |succ j=>
   have:=x_ xs (o+1) 1 h3 j x (by simpa using h)
   rwa[show o+1+j=o+(j+1) by omega] at this
def nZ (l:List (List UInt8)) (sep:List UInt8):Option (List UInt8):=if l.length<=140737488355328/\(Lib.join l sep).length<=140737488355328 then some (Lib.join l sep) else none
theorem uC (l:List (List UInt8)) (sep:List UInt8):∀ r,nZ l sep=some r->aa Tryz.prog 33 [.slice (List.map eK l),.str sep] (.str r):=by
 intro r hr
 unfold nZ at hr
 split at hr
 ·rename_i h
  cases hr
  refine⟨by kernel_rfl,fun w M vs hM hv hgood=> ?_⟩
  simp only[av] at hv
  obtain⟨u,us,rfl,hs,u',us',rfl,hp,rfl⟩:=hv
  unfold aD at hs hp
  subst hp
  obtain⟨a,cap,rfl,hl,hn,hc⟩:=hs
  have hmm:(l.map fun s=>(⟨s.toArray⟩:ByteArray)).map (·.data.toList)=l:=by
   rw[Ly];conv=>rhs;rw[<-List.map_id l]
   exact K_ fun s _=>rfl
  by_cases he:l=[]
  ·subst he
   refine Calls.mono (Any.strings_Join_none Tryz.lays156 Bv a cap ⟨sep.toArray⟩ w) ?_
   rintro e w' ⟨rfl,rfl⟩
   exact⟨_,rfl,by unfold aD;rfl,Below.refl _ _⟩
  ·rcases hc with hc|⟨b,o,sz,rfl,hM',hb,hrows⟩
   ·simp only[List.map_eq_nil_iff] at hc;exact absurd hc he
   ·have hcon:=Any.strings_Join Tryz.lays156 Bv b o cap (l.map fun s=>(⟨s.toArray⟩:ByteArray)) ⟨sep.toArray⟩ w (x_ l o sz hrows) hb (by simpa using h.1) (by simpa using hl) (by rw[hmm];exact h.2)
    rw[hmm,KC] at hcon
    rw[KC]
    refine Calls.mono hcon ?_
    rintro e w' ⟨rfl,hB⟩
    exact⟨_,rfl,by unfold aD;rfl,hB⟩
 ·cases hr
end Go.Proofs.YtgocgdgknpdknaaGreatDoor
namespace Go.Proofs
open Go.Proofs.YtgocgdgknpdknaaGreatDoor
open Go.Shelf
def Tryz.lays160_ren:Go.Shelf.Ren:=⟨fun|160=>35|232=>55|231=>54|227=>56|234=>58|233=>57|236=>60|235=>59|228=>82|271=>85|151=>84|197=>83|120=>107|152=>106|260=>105|137=>61|119=>123|224=>124|225=>125|217=>86|266=>108|n=>n,fun|9=>9|4=>4|3=>3|5=>5|117=>105|116=>104|0=>0|124=>108|21=>21|105=>139|46=>156|119=>168|139=>171|138=>170|n=>n,fun|3=>2|4=>3|n=>n⟩
theorem Tryz.lays160:Go.Proofs.Lays.n160 Tryz.prog Tryz.lays160_ren:={
 mixed:=oK
 f119:=Tryz.func123.trans (congrArg some oK)
 f120:=Tryz.func107.trans (congrArg some oK)
 f137:=Tryz.func61.trans (congrArg some oK)
 f151:=Tryz.func84.trans (congrArg some oK)
 f152:=Tryz.func106.trans (congrArg some oK)
 f160:=Tryz.func35.trans (congrArg some oK)
 f197:=Tryz.func83.trans (congrArg some oK)
 f217:=Tryz.func86.trans (congrArg some oK)
 f224:=Tryz.func124.trans (congrArg some oK)
 f225:=Tryz.func125.trans (congrArg some oK)
 f227:=Tryz.func56.trans (congrArg some oK)
 f228:=Tryz.func82.trans (congrArg some oK)
 f231:=Tryz.func54.trans (congrArg some oK)
 f232:=Tryz.func55.trans (congrArg some oK)
 f233:=Tryz.func57.trans (congrArg some oK)
 f234:=Tryz.func58.trans (congrArg some oK)
 f235:=Tryz.func59.trans (congrArg some oK)
 f236:=Tryz.func60.trans (congrArg some oK)
 f260:=Tryz.func105.trans (congrArg some oK)
 f266:=Tryz.func108.trans (congrArg some oK)
 f271:=Tryz.func85.trans (congrArg some oK)
 t0:=Tryz.underlying0
 a0:=Tryz.isAgg0
 z0:=Tryz.sizeOf0
 v0:=Tryz.zeroValue0
 t3:=Tryz.underlying3
 a3:=Tryz.isAgg3
 z3:=Tryz.sizeOf3
 v3:=Tryz.zeroValue3
 t4:=Tryz.underlying4
 a4:=Tryz.isAgg4
 z4:=Tryz.sizeOf4
 v4:=Tryz.zeroValue4
 t5:=Tryz.underlying5
 a5:=Tryz.isAgg5
 z5:=Tryz.sizeOf5
 v5:=Tryz.zeroValue5
 t9:=Tryz.underlying9
 a9:=Tryz.isAgg9
 z9:=Tryz.sizeOf9
 v9:=Tryz.zeroValue9
 t21:=Tryz.underlying21
 a21:=Tryz.isAgg21
 z21:=Tryz.sizeOf21
 v21:=Tryz.zeroValue21
 t46:=Tryz.underlying156
 a46:=Tryz.isAgg156
 z46:=Tryz.sizeOf156
 v46:=Tryz.zeroValue156
 t105:=Tryz.underlying139
 a105:=Tryz.isAgg139
 z105:=Tryz.sizeOf139
 v105:=Tryz.zeroValue139
 t116:=Tryz.underlying104
 a116:=Tryz.isAgg104
 z116:=Tryz.sizeOf104
 t117:=Tryz.underlying105
 a117:=Tryz.isAgg105
 z117:=Tryz.sizeOf105
 v117:=Tryz.zeroValue105
 t119:=Tryz.underlying168
 a119:=Tryz.isAgg168
 z119:=Tryz.sizeOf168
 t124:=Tryz.underlying108
 a124:=Tryz.isAgg108
 z124:=Tryz.sizeOf108
 v124:=Tryz.zeroValue108
 t138:=Tryz.underlying170
 a138:=Tryz.isAgg170
 z138:=Tryz.sizeOf170
 v138:=Tryz.zeroValue170
 t139:=Tryz.underlying171
 a139:=Tryz.isAgg171
 z139:=Tryz.sizeOf171
 v139:=Tryz.zeroValue171
 g3:=oK
 g4:=by kernel_rfl}
def Tryz.lays137_ren:Go.Shelf.Ren:=⟨fun|137=>61|217=>86|266=>108|n=>n,fun|9=>9|5=>5|3=>3|n=>n,fun|n=>n⟩
theorem Tryz.lays137:Go.Proofs.Lays.n137 Tryz.prog Tryz.lays137_ren:={
 mixed:=oK
 f137:=Tryz.func61.trans (congrArg some oK)
 f217:=Tryz.func86.trans (congrArg some oK)
 f266:=Tryz.func108.trans (congrArg some oK)
 t3:=Tryz.underlying3
 a3:=Tryz.isAgg3
 z3:=Tryz.sizeOf3
 v3:=Tryz.zeroValue3
 t5:=Tryz.underlying5
 a5:=Tryz.isAgg5
 z5:=Tryz.sizeOf5
 v5:=Tryz.zeroValue5
 t9:=Tryz.underlying9
 a9:=Tryz.isAgg9
 z9:=Tryz.sizeOf9
 v9:=Tryz.zeroValue9}
end Go.Proofs
namespace Go.Proofs.YtgocgdgknpdknaaGreatDoor
set_option linter.unusedSimpArgs false
set_option linter.unusedVariables false
open Go.RowKit Go.Shelf
def cP (s cs:List UInt8):Option (List UInt8):=if s.length<=9223372036854775807/\cs.length<4294967281/\cs.all (fun b=>decide (b.toNat<128))=true then some (Lib.trimS s cs) else none
theorem o5 (s cs:List UInt8):∀ r,cP s cs=some r->aa Tryz.prog 35 [.str s,.str cs] (.str r):=by
 intro r hr
 unfold cP at hr
 split at hr
 ·rename_i h
  obtain⟨h1,h2,h3⟩:=h
  cases hr
  refine⟨by kernel_rfl,fun w M vs hM hv _=> ?_⟩
  simp only[av,aD] at hv
  obtain⟨u,us,rfl,rfl,u',us',rfl,rfl,rfl⟩:=hv
  have hcon:=Any.strings_Trim_laid Tryz.lays160 oK ⟨s.toArray⟩ ⟨cs.toArray⟩ w (by simpa[ByteArray.size] using h1) (by simpa[ByteArray.size] using h2) (ascii_of_all (by simpa using h3))
  refine Calls.mono hcon ?_
  rintro e w' ⟨rfl,hB⟩
  exact⟨_,rfl,by simp[aD],hB⟩
 ·cases hr
end Go.Proofs.YtgocgdgknpdknaaGreatDoor
namespace Go.Proofs.YtgocgdgknpdknaaGreatDoor
set_option linter.unusedSimpArgs false
set_option linter.unusedVariables false
open Go.RowKit Go.Shelf
def mO (s:List UInt8) (c:UInt8):Option Int:=some (Lib.indexByte s c)
theorem qd (s:List UInt8) (c:UInt8):∀ r,mO s c=some r->aa Tryz.prog 61 [.str s,.int .u8 c.toNat] (.int .i64 r):=by
 intro r hr
 cases hr
 refine⟨by kernel_rfl,fun w M vs hM hv _=> ?_⟩
 simp only[av,aD] at hv
 obtain⟨u,us,rfl,rfl,u',us',rfl,rfl,rfl⟩:=hv
 have hcon:=Any.strings_IndexByte Tryz.lays137 ⟨s.toArray⟩ (c.toNat:Int) w
 refine Calls.mono hcon ?_
 rintro e w' ⟨rfl,rfl⟩
 refine⟨_,rfl, ?_,Below.refl _ _⟩
 simp only[aD]
 have:((c.toNat:Int)).toNat.toUInt8=c:=by simp
 rw[this]
end Go.Proofs.YtgocgdgknpdknaaGreatDoor
namespace Go.Proofs
open Go.Proofs.YtgocgdgknpdknaaGreatDoor
open Go.Shelf
def Tryz.lays171_ren:Go.Shelf.Ren:=⟨fun|171=>12|243=>34|246=>53|283=>78|284=>79|285=>80|286=>81|129=>101|317=>100|318=>102|319=>103|320=>104|337=>121|338=>122|n=>n,fun|3=>3|9=>9|2=>2|4=>4|171=>132|0=>0|53=>133|37=>33|5=>5|173=>136|212=>152|51=>153|20=>20|213=>154|46=>156|232=>186|233=>187|n=>n,fun|17=>0|18=>4|19=>5|n=>n⟩
theorem Tryz.lays171:Go.Proofs.LaysM.n171 Tryz.prog Tryz.lays171_ren:={
 mixed:=oK
 f129:=Tryz.func101.trans (congrArg some oK)
 f171:=Tryz.func12.trans (congrArg some oK)
 f243:=Tryz.func34.trans (congrArg some oK)
 f246:=Tryz.func53.trans (congrArg some oK)
 f283:=Tryz.func78.trans (congrArg some oK)
 f284:=Tryz.func79.trans (congrArg some oK)
 f285:=Tryz.func80.trans (congrArg some oK)
 f286:=Tryz.func81.trans (congrArg some oK)
 f317:=Tryz.func100.trans (congrArg some oK)
 f318:=Tryz.func102.trans (congrArg some oK)
 f319:=Tryz.func103.trans (congrArg some oK)
 f320:=Tryz.func104.trans (congrArg some oK)
 f337:=Tryz.func121.trans (congrArg some oK)
 f338:=Tryz.func122.trans (congrArg some oK)
 t0:=Tryz.underlying0
 a0:=Tryz.isAgg0
 z0:=Tryz.sizeOf0
 v0:=Tryz.zeroValue0
 t2:=Tryz.underlying2
 a2:=Tryz.isAgg2
 z2:=Tryz.sizeOf2
 v2:=Tryz.zeroValue2
 t3:=Tryz.underlying3
 a3:=Tryz.isAgg3
 z3:=Tryz.sizeOf3
 v3:=Tryz.zeroValue3
 t4:=Tryz.underlying4
 a4:=Tryz.isAgg4
 z4:=Tryz.sizeOf4
 v4:=Tryz.zeroValue4
 t5:=Tryz.underlying5
 a5:=Tryz.isAgg5
 z5:=Tryz.sizeOf5
 v5:=Tryz.zeroValue5
 t9:=Tryz.underlying9
 a9:=Tryz.isAgg9
 z9:=Tryz.sizeOf9
 v9:=Tryz.zeroValue9
 t20:=Tryz.underlying20
 a20:=Tryz.isAgg20
 z20:=Tryz.sizeOf20
 v20:=Tryz.zeroValue20
 t37:=Tryz.underlying33
 a37:=Tryz.isAgg33
 z37:=Tryz.sizeOf33
 v37:=Tryz.zeroValue33
 t46:=Tryz.underlying156
 a46:=Tryz.isAgg156
 z46:=Tryz.sizeOf156
 v46:=Tryz.zeroValue156
 t51:=Tryz.underlying153
 a51:=Tryz.isAgg153
 z51:=Tryz.sizeOf153
 v51:=Tryz.zeroValue153
 t53:=Tryz.underlying133
 a53:=Tryz.isAgg133
 z53:=Tryz.sizeOf133
 v53:=Tryz.zeroValue133
 t171:=Tryz.underlying132
 a171:=Tryz.isAgg132
 z171:=Tryz.sizeOf132
 v171:=Tryz.zeroValue132
 t173:=Tryz.underlying136
 a173:=Tryz.isAgg136
 z173:=Tryz.sizeOf136
 v173:=Tryz.zeroValue136
 t212:=Tryz.underlying152
 a212:=Tryz.isAgg152
 z212:=Tryz.sizeOf152
 v212:=Tryz.zeroValue152
 t213:=Tryz.underlying154
 a213:=Tryz.isAgg154
 z213:=Tryz.sizeOf154
 t232:=Tryz.underlying186
 a232:=Tryz.isAgg186
 z232:=Tryz.sizeOf186
 v232:=Tryz.zeroValue186
 t233:=Tryz.underlying187
 a233:=Tryz.isAgg187
 z233:=Tryz.sizeOf187
 v233:=Tryz.zeroValue187
 g17:=oK
 g18:=oK
 g19:=oK
 i0:=oK
 i2:=oK
 i3:=oK
 i4:=oK
 i5:=oK
 i9:=oK
 i20:=oK
 i37:=oK
 i46:=oK
 i51:=oK
 i53:=oK
 i171:=oK
 i173:=oK
 i212:=oK
 i232:=oK
 i233:=oK
 m17:=oK
 m18:=oK
 m19:=by kernel_rfl}
end Go.Proofs
namespace Go.Proofs.YtgocgdgknpdknaaGreatDoor
set_option linter.unusedSimpArgs false
set_option linter.unusedVariables false
open Go.RowKit Go.Shelf
theorem CA (w:World) (k:Nat) (os:Array Obj):Below w.heap.size w (Go.Sort.grow (w.drewN k) os):=by
 refine⟨rfl,rfl,rfl, ?_,fun i hi=> ?_⟩
 ·show w.heap.size<=(w.heap++os).size
  rw[Array.size_append];omega
 ·show(w.heap++os)[i]?=w.heap[i]?
  rw[Array.getElem?_append_left hi]
theorem Ee {w:World} (h:sF w):Lib.TabIs Tryz.prog w "internal/strconv.uint64pow10" .u64 Lib.pow10Tab:=by
 obtain⟨u,f,hc⟩:=h (0,.u64,Lib.pow10Tab) (by unfold DD;first|exact JU (i:=0) rfl|exact JU (i:=3) rfl)|>.at (by unfold Lib.pow10Tab;simp)
 unfold Lib.TabIs World.var?
 rw[show Tryz.prog.globalNamed "internal/strconv.uint64pow10" =some 0 by kernel_rfl]
 simp only[JP]
 rw[hc]
def kP (n:Int):Option (List UInt8):=if -9223372036854775808<=n/\n<=9223372036854775807 then some (Lib.itoa n) else none
theorem g_ (n:Int):∀ r,kP n=some r->aa Tryz.prog 12 [.int .i64 n] (.str r):=by
 intro r hr
 unfold kP at hr
 split at hr
 ·rename_i h
  cases hr
  refine⟨by kernel_rfl,fun w M vs hM hv hgood=> ?_⟩
  simp only[av,aD] at hv
  obtain⟨u,us,rfl,rfl,rfl⟩:=hv
  refine Calls.mono (Any.strconv_Itoa Tryz.lays171 n h.1 h.2 w (Ee hgood)) ?_
  rintro e w' ⟨rfl,k,os,rfl⟩
  exact⟨_,rfl,by simp[aD],CA w k os⟩
 ·cases hr
end Go.Proofs.YtgocgdgknpdknaaGreatDoor
namespace Go.Proofs
open Go.Proofs.YtgocgdgknpdknaaGreatDoor
open Go.Shelf
def Tryz.lays146_ren:Go.Shelf.Ren:=⟨fun|146=>73|221=>96|268=>116|138=>117|143=>118|195=>132|197=>83|218=>133|219=>134|260=>105|217=>86|225=>125|224=>124|267=>153|266=>108|314=>174|n=>n,fun|9=>9|31=>49|3=>3|4=>4|0=>0|105=>139|21=>21|5=>5|46=>156|119=>168|139=>171|138=>170|146=>217|51=>153|n=>n,fun|1=>1|3=>2|4=>3|n=>n⟩
theorem Tryz.lays146:Go.Proofs.LaysM.n146 Tryz.prog Tryz.lays146_ren:={
 mixed:=oK
 f138:=Tryz.func117.trans (congrArg some oK)
 f143:=Tryz.func118.trans (congrArg some oK)
 f146:=Tryz.func73.trans (congrArg some oK)
 f195:=Tryz.func132.trans (congrArg some oK)
 f197:=Tryz.func83.trans (congrArg some oK)
 f217:=Tryz.func86.trans (congrArg some oK)
 f218:=Tryz.func133.trans (congrArg some oK)
 f219:=Tryz.func134.trans (congrArg some oK)
 f221:=Tryz.func96.trans (congrArg some oK)
 f224:=Tryz.func124.trans (congrArg some oK)
 f225:=Tryz.func125.trans (congrArg some oK)
 f260:=Tryz.func105.trans (congrArg some oK)
 f266:=Tryz.func108.trans (congrArg some oK)
 f267:=Tryz.func153.trans (congrArg some oK)
 f268:=Tryz.func116.trans (congrArg some oK)
 f314:=Tryz.func174.trans (congrArg some oK)
 t0:=Tryz.underlying0
 a0:=Tryz.isAgg0
 z0:=Tryz.sizeOf0
 v0:=Tryz.zeroValue0
 t3:=Tryz.underlying3
 a3:=Tryz.isAgg3
 z3:=Tryz.sizeOf3
 v3:=Tryz.zeroValue3
 t4:=Tryz.underlying4
 a4:=Tryz.isAgg4
 z4:=Tryz.sizeOf4
 v4:=Tryz.zeroValue4
 t5:=Tryz.underlying5
 a5:=Tryz.isAgg5
 z5:=Tryz.sizeOf5
 v5:=Tryz.zeroValue5
 t9:=Tryz.underlying9
 a9:=Tryz.isAgg9
 z9:=Tryz.sizeOf9
 v9:=Tryz.zeroValue9
 t21:=Tryz.underlying21
 a21:=Tryz.isAgg21
 z21:=Tryz.sizeOf21
 v21:=Tryz.zeroValue21
 t31:=Tryz.underlying49
 a31:=Tryz.isAgg49
 z31:=Tryz.sizeOf49
 v31:=Tryz.zeroValue49
 t46:=Tryz.underlying156
 a46:=Tryz.isAgg156
 z46:=Tryz.sizeOf156
 v46:=Tryz.zeroValue156
 t51:=Tryz.underlying153
 a51:=Tryz.isAgg153
 z51:=Tryz.sizeOf153
 v51:=Tryz.zeroValue153
 t105:=Tryz.underlying139
 a105:=Tryz.isAgg139
 z105:=Tryz.sizeOf139
 v105:=Tryz.zeroValue139
 t119:=Tryz.underlying168
 a119:=Tryz.isAgg168
 z119:=Tryz.sizeOf168
 t138:=Tryz.underlying170
 a138:=Tryz.isAgg170
 z138:=Tryz.sizeOf170
 v138:=Tryz.zeroValue170
 t139:=Tryz.underlying171
 a139:=Tryz.isAgg171
 z139:=Tryz.sizeOf171
 v139:=Tryz.zeroValue171
 t146:=Tryz.underlying217
 a146:=Tryz.isAgg217
 z146:=Tryz.sizeOf217
 v146:=Tryz.zeroValue217
 g1:=oK
 g3:=oK
 g4:=oK
 i0:=oK
 i3:=oK
 i4:=oK
 i5:=oK
 i9:=oK
 i21:=oK
 i31:=oK
 i46:=oK
 i51:=oK
 i105:=oK
 i138:=oK
 i139:=oK
 i146:=oK
 m1:=oK
 s1_3:=fun w h=>Go.Proofs.cell_of_shapedOpen_int (zero:= #[.int .i64 0]) (t:=3) h (of_decide_eq_true oK) oK rfl oK oK Tryz.underlying3
 m3:=oK
 m4:=by kernel_rfl}
def Tryz.lays145_ren:Go.Shelf.Ren:=⟨fun|145=>141|220=>158|219=>134|217=>86|225=>125|224=>124|267=>153|266=>108|314=>174|n=>n,fun|9=>9|4=>4|59=>189|3=>3|5=>5|46=>156|146=>217|51=>153|n=>n,fun|1=>1|n=>n⟩
theorem Tryz.lays145:Go.Proofs.LaysM.n145 Tryz.prog Tryz.lays145_ren:={
 mixed:=oK
 f145:=Tryz.func141.trans (congrArg some oK)
 f217:=Tryz.func86.trans (congrArg some oK)
 f219:=Tryz.func134.trans (congrArg some oK)
 f220:=Tryz.func158.trans (congrArg some oK)
 f224:=Tryz.func124.trans (congrArg some oK)
 f225:=Tryz.func125.trans (congrArg some oK)
 f266:=Tryz.func108.trans (congrArg some oK)
 f267:=Tryz.func153.trans (congrArg some oK)
 f314:=Tryz.func174.trans (congrArg some oK)
 t3:=Tryz.underlying3
 a3:=Tryz.isAgg3
 z3:=Tryz.sizeOf3
 v3:=Tryz.zeroValue3
 t4:=Tryz.underlying4
 a4:=Tryz.isAgg4
 z4:=Tryz.sizeOf4
 v4:=Tryz.zeroValue4
 t5:=Tryz.underlying5
 a5:=Tryz.isAgg5
 z5:=Tryz.sizeOf5
 v5:=Tryz.zeroValue5
 t9:=Tryz.underlying9
 a9:=Tryz.isAgg9
 z9:=Tryz.sizeOf9
 v9:=Tryz.zeroValue9
 t46:=Tryz.underlying156
 a46:=Tryz.isAgg156
 z46:=Tryz.sizeOf156
 v46:=Tryz.zeroValue156
 t51:=Tryz.underlying153
 a51:=Tryz.isAgg153
 z51:=Tryz.sizeOf153
 v51:=Tryz.zeroValue153
 t59:=Tryz.underlying189
 a59:=Tryz.isAgg189
 z59:=Tryz.sizeOf189
 v59:=Tryz.zeroValue189
 t146:=Tryz.underlying217
 a146:=Tryz.isAgg217
 z146:=Tryz.sizeOf217
 v146:=Tryz.zeroValue217
 g1:=oK
 i3:=oK
 i4:=oK
 i5:=oK
 i9:=oK
 i46:=oK
 i51:=oK
 i59:=oK
 i146:=oK
 m1:=oK
 s1_3:=fun w h=>Go.Proofs.cell_of_shapedOpen_int (zero:= #[.int .i64 0]) (t:=3) h (of_decide_eq_true oK) oK rfl oK oK Tryz.underlying3}
def Tryz.lays172_ren:Go.Shelf.Ren:=⟨fun|172=>98|244=>119|245=>120|247=>135|279=>136|280=>137|281=>138|282=>139|287=>154|316=>155|171=>12|205=>156|321=>175|322=>176|243=>34|246=>53|283=>78|284=>79|285=>80|286=>81|129=>101|317=>100|318=>102|319=>103|320=>104|337=>121|338=>122|n=>n,fun|9=>9|3=>3|75=>37|76=>38|4=>4|5=>5|167=>180|37=>33|0=>0|85=>181|2=>2|168=>183|53=>133|175=>196|46=>156|210=>200|127=>82|145=>222|143=>220|21=>21|171=>132|173=>136|212=>152|51=>153|20=>20|213=>154|232=>186|233=>187|80=>55|n=>n,fun|15=>6|16=>7|17=>0|18=>4|19=>5|n=>n⟩
theorem Tryz.lays172:Go.Proofs.Lays.n172 Tryz.prog Tryz.lays172_ren:={
 mixed:=oK
 f129:=Tryz.func101.trans (congrArg some oK)
 f171:=Tryz.func12.trans (congrArg some oK)
 f172:=Tryz.func98.trans (congrArg some oK)
 f205:=Tryz.func156.trans (congrArg some oK)
 f243:=Tryz.func34.trans (congrArg some oK)
 f244:=Tryz.func119.trans (congrArg some oK)
 f245:=Tryz.func120.trans (congrArg some oK)
 f246:=Tryz.func53.trans (congrArg some oK)
 f247:=Tryz.func135.trans (congrArg some oK)
 f279:=Tryz.func136.trans (congrArg some oK)
 f280:=Tryz.func137.trans (congrArg some oK)
 f281:=Tryz.func138.trans (congrArg some oK)
 f282:=Tryz.func139.trans (congrArg some oK)
 f283:=Tryz.func78.trans (congrArg some oK)
 f284:=Tryz.func79.trans (congrArg some oK)
 f285:=Tryz.func80.trans (congrArg some oK)
 f286:=Tryz.func81.trans (congrArg some oK)
 f287:=Tryz.func154.trans (congrArg some oK)
 f316:=Tryz.func155.trans (congrArg some oK)
 f317:=Tryz.func100.trans (congrArg some oK)
 f318:=Tryz.func102.trans (congrArg some oK)
 f319:=Tryz.func103.trans (congrArg some oK)
 f320:=Tryz.func104.trans (congrArg some oK)
 f321:=Tryz.func175.trans (congrArg some oK)
 f322:=Tryz.func176.trans (congrArg some oK)
 f337:=Tryz.func121.trans (congrArg some oK)
 f338:=Tryz.func122.trans (congrArg some oK)
 t0:=Tryz.underlying0
 a0:=Tryz.isAgg0
 z0:=Tryz.sizeOf0
 v0:=Tryz.zeroValue0
 t2:=Tryz.underlying2
 a2:=Tryz.isAgg2
 z2:=Tryz.sizeOf2
 v2:=Tryz.zeroValue2
 t3:=Tryz.underlying3
 a3:=Tryz.isAgg3
 z3:=Tryz.sizeOf3
 v3:=Tryz.zeroValue3
 t4:=Tryz.underlying4
 a4:=Tryz.isAgg4
 z4:=Tryz.sizeOf4
 v4:=Tryz.zeroValue4
 t5:=Tryz.underlying5
 a5:=Tryz.isAgg5
 z5:=Tryz.sizeOf5
 v5:=Tryz.zeroValue5
 t9:=Tryz.underlying9
 a9:=Tryz.isAgg9
 z9:=Tryz.sizeOf9
 v9:=Tryz.zeroValue9
 t20:=Tryz.underlying20
 a20:=Tryz.isAgg20
 z20:=Tryz.sizeOf20
 v20:=Tryz.zeroValue20
 t21:=Tryz.underlying21
 a21:=Tryz.isAgg21
 z21:=Tryz.sizeOf21
 v21:=Tryz.zeroValue21
 t37:=Tryz.underlying33
 a37:=Tryz.isAgg33
 z37:=Tryz.sizeOf33
 v37:=Tryz.zeroValue33
 t46:=Tryz.underlying156
 a46:=Tryz.isAgg156
 z46:=Tryz.sizeOf156
 v46:=Tryz.zeroValue156
 t51:=Tryz.underlying153
 a51:=Tryz.isAgg153
 z51:=Tryz.sizeOf153
 v51:=Tryz.zeroValue153
 t53:=Tryz.underlying133
 a53:=Tryz.isAgg133
 z53:=Tryz.sizeOf133
 v53:=Tryz.zeroValue133
 t75:=Tryz.underlying37
 a75:=Tryz.isAgg37
 z75:=Tryz.sizeOf37
 v75:=Tryz.zeroValue37
 t76:=Tryz.underlying38
 a76:=Tryz.isAgg38
 z76:=Tryz.sizeOf38
 v76:=Tryz.zeroValue38
 t85:=Tryz.underlying181
 a85:=Tryz.isAgg181
 z85:=Tryz.sizeOf181
 v85:=Tryz.zeroValue181
 t127:=Tryz.underlying82
 a127:=Tryz.isAgg82
 z127:=Tryz.sizeOf82
 v127:=Tryz.zeroValue82
 t143:=Tryz.underlying220
 a143:=Tryz.isAgg220
 z143:=Tryz.sizeOf220
 v143:=Tryz.zeroValue220
 t145:=Tryz.underlying222
 a145:=Tryz.isAgg222
 z145:=Tryz.sizeOf222
 v145:=Tryz.zeroValue222
 t167:=Tryz.underlying180
 a167:=Tryz.isAgg180
 z167:=Tryz.sizeOf180
 v167:=Tryz.zeroValue180
 t168:=Tryz.underlying183
 a168:=Tryz.isAgg183
 z168:=Tryz.sizeOf183
 v168:=Tryz.zeroValue183
 t171:=Tryz.underlying132
 a171:=Tryz.isAgg132
 z171:=Tryz.sizeOf132
 v171:=Tryz.zeroValue132
 t173:=Tryz.underlying136
 a173:=Tryz.isAgg136
 z173:=Tryz.sizeOf136
 v173:=Tryz.zeroValue136
 t175:=Tryz.underlying196
 a175:=Tryz.isAgg196
 z175:=Tryz.sizeOf196
 v175:=Tryz.zeroValue196
 t210:=Tryz.underlying200
 a210:=Tryz.isAgg200
 z210:=Tryz.sizeOf200
 v210:=Tryz.zeroValue200
 t212:=Tryz.underlying152
 a212:=Tryz.isAgg152
 z212:=Tryz.sizeOf152
 v212:=Tryz.zeroValue152
 t213:=Tryz.underlying154
 a213:=Tryz.isAgg154
 z213:=Tryz.sizeOf154
 t232:=Tryz.underlying186
 a232:=Tryz.isAgg186
 z232:=Tryz.sizeOf186
 v232:=Tryz.zeroValue186
 t233:=Tryz.underlying187
 a233:=Tryz.isAgg187
 z233:=Tryz.sizeOf187
 v233:=Tryz.zeroValue187
 g15:=oK
 g16:=oK
 g17:=oK
 g18:=oK
 g19:=by kernel_rfl}
end Go.Proofs
namespace Go.Proofs.YtgocgdgknpdknaaGreatDoor
set_option linter.unusedSimpArgs false
set_option linter.unusedVariables false
open Go.RowKit Go.Shelf
theorem zj {w:World} (h:sF w):∃ m,w.cell? ⟨1,0,none⟩=some (.int .i64 m):=
 po.int (t:=(1,.i64,[])) (h (1,.i64,[]) (by unfold DD;simp)) rfl
theorem uD {w:World} {M:Nat->Prop} {b:Nat}:∀ (xs:List ByteArray) (o:Nat),(∀ j x,xs[j]?=some x->w.cell? ⟨b,o+j,none⟩=some (.string x))->aE w M ((xs.map (·.data.toList)).map eK) b o 1
 |[],o,_=>by simp[aE]
 |x::xs,o,h=>by
  simp only[JZ]
  unfold aE
  refine⟨rfl, ?_,uD xs (o+1) fun j y hy=>by have:=h (j+1) y (by simpa using hy);rwa[show o+(j+1)=o+1+j by omega] at this⟩
  unfold eK aZ
  refine⟨⟨.string x,by simpa using h 0 x rfl,rfl, ?_⟩,by unfold aZ;trivial⟩
  unfold aD
  rw[Lib.mk_data]
theorem CB (w:World) (C:Array Value) (T:TypeId) (j:Nat):(w.alloc (.cells C T)).cell? ⟨w.heap.size,j,none⟩=C[j]?:=by
 have hh:(w.alloc (.cells C T)).heap[w.heap.size]?=some (.cells C T):=by
  show(w.heap.push _)[w.heap.size]?=_
  simp
 unfold World.cell?
 rw[hh]
 rfl
theorem FJ {w:World} {M:Nat->Prop} {xs:List ByteArray} {C:Array Value} {T:TypeId} {cap:Nat} (hM:∀ b,M b->b<w.heap.size) (hc:∀ (j:Nat) (x:ByteArray),xs[j]?=some x->C[j]?=some (Value.string x)) (hcap:xs.length<=cap):
  aD (w.alloc (.cells C T)) M (.slice ((xs.map (·.data.toList)).map eK)) (.slice (some ⟨w.heap.size,0,none⟩) xs.length cap):=by
 unfold aD
 refine⟨_,_,by rw[KC,KC],by rw[KC,KC];exact hcap,(fun h=>by cases h),.inr ⟨w.heap.size,0,1,rfl,fun h=>absurd (hM _ h) (Nat.lt_irrefl _), ?_, ?_⟩⟩
 ·show _<(w.heap.push _).size
  rw[Array.size_push];omega
 ·exact uD xs 0 fun j x hx=>by rw[KW,CB];exact hc j x hx
theorem Bw (w:World) (o:Obj):Below w.heap.size w (w.alloc o):=(Below.refl _ w).alloc (JW _) _
def jx (s sep:List UInt8):Option (List (List UInt8)):=if s.length<4294967281/\1<=sep.length then some (Lib.split s sep) else none
theorem tO (s sep:List UInt8):∀ r,jx s sep=some r->aa Tryz.prog 73 [.str s,.str sep] (.slice (List.map eK r)):=by
 intro r hr
 unfold jx at hr
 split at hr
 ·rename_i h
  cases hr
  refine⟨by kernel_rfl,fun w M vs hM hv hgood=> ?_⟩
  simp only[av,aD] at hv
  obtain⟨u,us,rfl,rfl,u',us',rfl,rfl,rfl⟩:=hv
  obtain⟨m,hm⟩:=zj hgood
  have h1:(⟨s.toArray⟩:ByteArray).size<4294967281:=by simpa[ByteArray.size] using h.1
  have h2:1<=(⟨sep.toArray⟩:ByteArray).size:=by simpa[ByteArray.size] using h.2
  refine Calls.mono (Any.strings_Split {Tryz.lays146 with} Tryz.lays146.i9 ⟨s.toArray⟩ ⟨sep.toArray⟩ m w h1 hm h2) ?_
  rintro e w' ⟨rfl,rfl⟩
  have hlen:=Lib.splitB_all ⟨sep.toArray⟩ h2 0 _ ⟨s.toArray⟩ rfl
  have hdat:=Lib.splitB_data ⟨sep.toArray⟩ 0 (Lib.countB ⟨s.toArray⟩ ⟨sep.toArray⟩) ⟨s.toArray⟩
  refine⟨_,rfl, ?_,Bw _ _⟩
  have:=fun T=>FJ (w:=w) (M:=M) (T:=T) (xs:=Lib.splitB ⟨sep.toArray⟩ 0 (Lib.countB ⟨s.toArray⟩ ⟨sep.toArray⟩) ⟨s.toArray⟩) (C:=((Lib.splitB ⟨sep.toArray⟩ 0 (Lib.countB ⟨s.toArray⟩ ⟨sep.toArray⟩) ⟨s.toArray⟩).map Value.string).toArray) (cap:=Lib.countB ⟨s.toArray⟩ ⟨sep.toArray⟩+1) hM (fun j x hx=>by simp[hx]) oM
  simp only[hdat,hlen] at this
  exact this _
 ·cases hr
theorem Ae (w:World) (q:Nat):Below w.heap.size w (w.drewN q):=⟨rfl,rfl,rfl,JW _,fun _ _=>rfl⟩
def gD (s sep:List UInt8):Option (List UInt8×List UInt8×Bool):=if s.length<4294967281 then some (Lib.cut s sep) else none
theorem pK (s sep:List UInt8):∀ r,gD s sep=some r->aa Tryz.prog 141 [.str s,.str sep] (.tup [.str r.1,.str r.2.1,.bool r.2.2]):=by
 intro r hr
 unfold gD at hr
 split at hr
 ·rename_i h
  cases hr
  refine⟨by kernel_rfl,fun w M vs hM hv hgood=> ?_⟩
  simp only[av,aD] at hv
  obtain⟨u,us,rfl,rfl,u',us',rfl,rfl,rfl⟩:=hv
  obtain⟨m,hm⟩:=zj hgood
  refine Calls.mono (Any.strings_Cut {Tryz.lays145 with} ⟨s.toArray⟩ ⟨sep.toArray⟩ m w (by simpa[ByteArray.size] using h) hm) ?_
  rintro e w' ⟨rfl,q,rfl⟩
  refine⟨_,rfl, ?_,Ae _ _⟩
  unfold aD
  refine⟨_,rfl, ?_⟩
  simp[av,aD]
 ·cases hr
noncomputable def iF (s:List UInt8):Option Int:=if s.length<=18 then Lib.atoi s else none
theorem uE (s:List UInt8):∀ r,iF s=some r->aa Tryz.prog 98 [.str s] (.tup [.int .i64 r,.raw .nilIface]):=by
 intro r hr
 unfold iF at hr
 split at hr
 ·rename_i h
  refine⟨by kernel_rfl,fun w M vs hM hv hgood=> ?_⟩
  simp only[av,aD] at hv
  obtain⟨u,us,rfl,rfl,rfl⟩:=hv
  refine Calls.mono (Any.strconv_Atoi Tryz.lays172 ⟨s.toArray⟩ r (by simpa[ByteArray.size] using h) hr w) ?_
  rintro e w' ⟨rfl,t,rfl⟩
  refine⟨_,rfl, ?_,⟨rfl,rfl,rfl,by rw[Lib.bytesWorld_size];omega,fun j hj=>Lib.bytesWorld_at_old w _ t j hj⟩⟩
  unfold aD
  refine⟨_,rfl, ?_⟩
  simp[av,aD]
 ·cases hr
end Go.Proofs.YtgocgdgknpdknaaGreatDoor
namespace Go.Proofs
open Go.Proofs.YtgocgdgknpdknaaGreatDoor
open Go.Shelf
def Tryz.lays103_ren:Go.Shelf.Ren:=⟨fun|103=>140|210=>157|206=>177|n=>n,fun|9=>9|4=>4|24=>130|3=>3|n=>n,fun|n=>n⟩
theorem Tryz.lays103:Go.Proofs.Lays.n103 Tryz.prog Tryz.lays103_ren:={
 mixed:=oK
 f103:=Tryz.func140.trans (congrArg some oK)
 f206:=Tryz.func177.trans (congrArg some oK)
 f210:=Tryz.func157.trans (congrArg some oK)
 t3:=Tryz.underlying3
 a3:=Tryz.isAgg3
 z3:=Tryz.sizeOf3
 v3:=Tryz.zeroValue3
 t4:=Tryz.underlying4
 a4:=Tryz.isAgg4
 z4:=Tryz.sizeOf4
 v4:=Tryz.zeroValue4
 t9:=Tryz.underlying9
 a9:=Tryz.isAgg9
 z9:=Tryz.sizeOf9
 v9:=Tryz.zeroValue9
 t24:=Tryz.underlying130
 a24:=Tryz.isAgg130
 z24:=Tryz.sizeOf130
 v24:=Tryz.zeroValue130}
end Go.Proofs
namespace Go.Proofs.YtgocgdgknpdknaaGreatDoor
set_option linter.unusedSimpArgs false
set_option linter.unusedVariables false
open Go.RowKit Go.Shelf
def fA (s p:List UInt8):Option (List UInt8×Bool):=some (Lib.trimPrefix s p,Lib.hasPrefix s p)
theorem kQ (s p:List UInt8):∀ r,fA s p=some r->aa Tryz.prog 140 [.str s,.str p] (.tup [.str r.1,.bool r.2]):=by
 intro r hr
 unfold fA at hr
 cases hr
 refine⟨by kernel_rfl,fun w M vs hM hv hgood=> ?_⟩
 simp only[av,aD] at hv
 obtain⟨u,us,rfl,rfl,u',us',rfl,rfl,rfl⟩:=hv
 refine Calls.mono (Any.strings_CutPrefix Tryz.lays103 ⟨s.toArray⟩ ⟨p.toArray⟩ w) ?_
 rintro e w' ⟨rfl,rfl⟩
 refine⟨_,rfl, ?_,Below.refl _ _⟩
 unfold aD
 refine⟨_,rfl, ?_⟩
 simp[av,aD]
end Go.Proofs.YtgocgdgknpdknaaGreatDoor
namespace Go.Proofs
open Go.Proofs.YtgocgdgknpdknaaGreatDoor
open Go.Shelf
def Tryz.lays106_ren:Go.Shelf.Ren:=⟨fun|106=>90|213=>111|265=>128|n=>n,fun|9=>9|3=>3|n=>n,fun|n=>n⟩
theorem Tryz.lays106:Go.Proofs.Lays.n106 Tryz.prog Tryz.lays106_ren:={
 mixed:=oK
 f106:=Tryz.func90.trans (congrArg some oK)
 f213:=Tryz.func111.trans (congrArg some oK)
 f265:=Tryz.func128.trans (congrArg some oK)
 t3:=Tryz.underlying3
 a3:=Tryz.isAgg3
 z3:=Tryz.sizeOf3
 v3:=Tryz.zeroValue3
 t9:=Tryz.underlying9
 a9:=Tryz.isAgg9
 z9:=Tryz.sizeOf9
 v9:=Tryz.zeroValue9}
end Go.Proofs
namespace Go.Proofs.YtgocgdgknpdknaaGreatDoor
set_option linter.unusedSimpArgs false
set_option linter.unusedVariables false
open Go.RowKit Go.Shelf
def oZ (a b:List UInt8):Option Int:=some (Lib.compareBytes a b)
theorem sb (a b:List UInt8):∀ r,oZ a b=some r->aa Tryz.prog 90 [.str a,.str b] (.int .i64 r):=by
 intro r hr
 unfold oZ at hr
 cases hr
 refine⟨by kernel_rfl,fun w M vs hM hv hgood=> ?_⟩
 simp only[av,aD] at hv
 obtain⟨u,us,rfl,rfl,u',us',rfl,rfl,rfl⟩:=hv
 refine Calls.mono (Any.strings_Compare Tryz.lays106 ⟨a.toArray⟩ ⟨b.toArray⟩ w) ?_
 rintro e w' ⟨rfl,rfl⟩
 refine⟨_,rfl, ?_,Below.refl _ _⟩
 simp[aD]
end Go.Proofs.YtgocgdgknpdknaaGreatDoor
namespace Go.Proofs.YtgocgdgknpdknaaGreatDoor
set_option linter.unusedSimpArgs false
set_option linter.unusedVariables false
theorem Hz:∃ n:Nat,1000000<=n:=⟨_,JW _⟩
noncomputable def FU:Nat:=Classical.choose Hz
theorem Ab:1000000<=FU:=Classical.choose_spec Hz
end Go.Proofs.YtgocgdgknpdknaaGreatDoor
namespace Go.Proofs.YtgocgdgknpdknaaGreatDoor
open Go.RowKit
set_option linter.unusedSimpArgs false
set_option linter.unusedVariables false
structure al where
 fneg:Bool
 fabs:List Int
 deriving DecidableEq
def aG (x:al):List DV:=[.bool x.fneg,.slice (List.map o9 x.fabs)]
attribute [push_cast] aG
theorem yz {d0 d1:DV} {v0:Bool} {v1:List Int} (h0:d0= .bool v0) (h1:d1= .slice (List.map o9 v1)):[d0,d1]=aG ⟨v0,v1⟩:=by unfold aG;simp only[h0,h1,J5,Kd,KM,Ka]
def i6:SC:=
 (.seq (.seq (.reg (.r 3 (.mv (.t 0)):: .r 4 (.len (.t 3)):: .r 5 (.bin .gtr (.t 4) (.c (.d (.int .i64 0)))):: .r 6 (.mv (.t 5))::aK [7,8,9,10,11,12,13] 6 true (.r 7 (.mv (.t 0)):: .r 8 (.mv (.t 0)):: .r 9 (.len (.t 8)):: .r 10 (.bin .sub (.t 9) (.c (.d (.int .i64 1)))):: .r 11 (.idx 1 (.t 7) (.t 10)):: .r 12 (.ld1 (.t 11)):: .r 13 (.bin .eql (.t 12) (.c (.d (.int .u32 0))))::[]) (.r 14 (.pick (.t 6) (.t 13) (.c (.d (.bool false))))::[])))
 (.cond (.t 14)
  .skip
  (.exit 0)))
 (.block 1 (.reg [.r 15 (.mv (.t 0)),
    .r 16 (.mv (.t 0)),
    .r 17 (.len (.t 16)),
    .r 18 (.bin .sub (.t 17) (.c (.d (.int .i64 1)))),
    .r 19 (.slc 1 (.t 15) none (some (.t 18))),
    .r 0 (.mv (.t 19))])))
def mG:SC:= .block 0 (.loop i6)
def pz:SC:=
 (.seq (.reg [.r 2 (.mv (.c (.nils)))])
 (.seq mG
 (.seq (.reg [.r 20 (.mv (.t 0)),
   .r 2 (.mv (.t 20))])
 .ret)))
theorem ul:fits Tryz.prog 191 Tryz.f191 pz [.t 2] 1=true:=oK
def mi:SC:=
 (.seq (.reg [.r 23 (.bin .lss (.t 22) (.t 21))])
 (.seq (.cond (.t 23)
  .skip
  (.exit 0))
 (.seq (.block 1 (.seq (.reg [.r 24 (.mv (.t 22)),
    .r 25 (.idx 1 (.t 20) (.t 22)),
    .o 26 (.ld1 (.t 25)),
    .r 7 (.mv (.t 24)),
    .r 8 (.mv (.t 26))])
  (.seq (.reg [.r 27 (.mv (.t 6)),
    .r 28 (.mv (.t 8)),
    .r 29 (.cvi .u64 (.t 28)),
    .r 30 (.bin .add (.t 27) (.t 29)),
    .r 6 (.mv (.t 30))])
  (.seq (.seq (.reg [.r 31 (.mv (.t 7)),
    .r 32 (.mv (.t 1)),
    .r 33 (.len (.t 32)),
    .r 34 (.bin .lss (.t 31) (.t 33))])
  (.cond (.t 34)
   (.reg [.r 35 (.mv (.t 6)),
     .r 36 (.mv (.t 1)),
     .r 37 (.mv (.t 7)),
     .r 38 (.idx 1 (.t 36) (.t 37)),
     .o 39 (.ld1 (.t 38)),
     .r 40 (.cvi .u64 (.t 39)),
     .r 41 (.bin .add (.t 35) (.t 40)),
     .r 6 (.mv (.t 41))])
   .skip))
  (.seq (.reg [.r 42 (.mv (.t 5)),
    .r 43 (.mv (.t 6)),
    .r 44 (.cvi .u32 (.t 43)),
    .r 45 (.bslice 1 [.t 44]),
    .w 46 (.app 153 1 (.t 42) (.t 45)),
    .r 5 (.mv (.t 46))])
  (.reg [.r 47 (.mv (.t 6)),
    .r 48 (.bin .shr (.t 47) (.c (.d (.int .u64 32)))),
    .r 6 (.mv (.t 48))]))))))
 (.reg [.r 49 (.bin .add (.t 22) (.c (.d (.int .i64 1)))),
   .r 22 (.mv (.t 49))]))))
def qi:SC:= .block 0 (.loop mi)
def um:SC:=
 (.seq (.reg [.r 4 (.mv (.c (.nils)))])
 (.seq (.seq (.reg [.r 9 (.mv (.t 0)),
   .r 10 (.len (.t 9)),
   .r 11 (.mv (.t 1)),
   .r 12 (.len (.t 11)),
   .r 13 (.bin .lss (.t 10) (.t 12))])
 (.cond (.t 13)
  (.reg [.r 14 (.mv (.t 1)),
    .r 15 (.mv (.t 0)),
    .r 0 (.mv (.t 14)),
    .r 1 (.mv (.t 15))])
  .skip))
 (.seq (.reg [.r 16 (.mv (.t 0)),
   .r 17 (.len (.t 16)),
   .r 18 (.bin .add (.t 17) (.c (.d (.int .i64 1)))),
   .w 19 (.mkS 153 1 (.d (.int .u32 0)) (.c (.d (.int .i64 0))) (.t 18)),
   .r 5 (.mv (.t 19))])
 (.seq (.reg [.r 6 (.mv (.c (.d (.int .u64 0))))])
 (.seq (.seq (.reg [.r 20 (.mv (.t 0)),
   .r 21 (.len (.t 20)),
   .r 22 (.mv (.c (.d (.int .i64 0))))])
 qi)
 (.seq (.reg [.r 50 (.mv (.t 5)),
   .r 51 (.mv (.t 6)),
   .r 52 (.cvi .u32 (.t 51)),
   .r 53 (.bslice 1 [.t 52]),
   .w 54 (.app 153 1 (.t 50) (.t 53)),
   .r 4 (.mv (.t 54))])
 .ret))))))
theorem yA:fits Tryz.prog 179 Tryz.f179 um [.t 4] 2=true:=oK
def fT:SC:=
 (.seq (.reg [.r 1 (.boxI (.t 0)),
   .r 2 (.mv (.c (.d (.int .i64 0))))])
 (.seq (.block 0 (.seq (.reg [.r 4 (.fld 0 (.t 1)),
    .o 5 (.ld1 (.t 4)),
    .r 3 (.mv (.t 5))])
  (.cond (.t 3)
   (.seq (.reg [.r 2 (.mv (.c (.d (.int .i64 (-1)))))])
   .ret)
   (.seq (.reg [.r 7 (.fld 1 (.t 1)),
     .o 8 (.ld1 (.t 7)),
     .r 9 (.len (.t 8)),
     .r 10 (.bin .eql (.t 9) (.c (.d (.int .i64 0)))),
     .r 6 (.mv (.t 10))])
   (.cond (.t 6)
    (.seq (.reg [.r 2 (.mv (.c (.d (.int .i64 0))))])
    .ret)
    .skip)))))
 (.seq (.reg [.r 2 (.mv (.c (.d (.int .i64 1))))])
 .ret)))
theorem lp:fits Tryz.prog 162 Tryz.f162 fT [.t 2] 1=true:=oK
def cW:SC:=
 (.seq (.reg [.r 17 (.bin .lss (.t 16) (.t 15))])
 (.seq (.cond (.t 17)
  .skip
  (.exit 0))
 (.seq (.block 1 (.seq (.reg [.r 18 (.mv (.t 16)),
    .r 19 (.idx 1 (.t 14) (.t 16)),
    .o 20 (.ld1 (.t 19)),
    .r 7 (.mv (.t 18)),
    .r 8 (.mv (.t 20))])
  (.reg [.r 21 (.mv (.t 6)),
    .r 22 (.mv (.t 8)),
    .r 23 (.cvi .u64 (.t 22)),
    .r 24 (.mv (.t 7)),
    .r 25 (.bin .mul (.c (.d (.int .i64 32))) (.t 24)),
    .r 26 (.bin .shl (.t 23) (.t 25)),
    .r 27 (.bin .or (.t 21) (.t 26)),
    .r 6 (.mv (.t 27))])))
 (.reg [.r 28 (.bin .add (.t 16) (.c (.d (.int .i64 1)))),
   .r 16 (.mv (.t 28))]))))
def fk:SC:= .block 0 (.loop cW)
def gp:SC:=
 (.seq (.reg [.r 2 (.boxI (.t 0)),
   .r 4 (.mv (.c (.d (.int .i64 0)))),
   .r 5 (.mv (.c (.d (.bool false))))])
 (.seq (.seq (.reg [.r 9 (.fld 1 (.t 2)),
   .o 10 (.ld1 (.t 9)),
   .r 11 (.len (.t 10)),
   .r 12 (.bin .gtr (.t 11) (.c (.d (.int .i64 2))))])
 (.cond (.t 12)
  (.seq (.reg [.r 4 (.mv (.c (.d (.int .i64 0)))),
    .r 5 (.mv (.c (.d (.bool false))))])
  .ret)
  .skip))
 (.seq (.reg [.r 6 (.mv (.c (.d (.int .u64 0))))])
 (.seq (.seq (.reg [.r 13 (.fld 1 (.t 2)),
   .o 14 (.ld1 (.t 13)),
   .r 15 (.len (.t 14)),
   .r 16 (.mv (.c (.d (.int .i64 0))))])
 fk)
 (.seq (.seq (.reg [.r 29 (.mv (.t 6)),
   .r 30 (.mv (.t 1)),
   .r 31 (.cvi .u64 (.t 30)),
   .r 32 (.bin .gtr (.t 29) (.t 31))])
 (.cond (.t 32)
  (.seq (.reg [.r 4 (.mv (.c (.d (.int .i64 0)))),
    .r 5 (.mv (.c (.d (.bool false))))])
  .ret)
  .skip))
 (.seq (.seq (.reg [.r 33 (.fld 0 (.t 2)),
   .o 34 (.ld1 (.t 33))])
 (.cond (.t 34)
  (.seq (.reg [.r 35 (.mv (.t 6)),
    .r 36 (.cvi .i64 (.t 35)),
    .r 37 (.neg (.t 36)),
    .r 4 (.mv (.t 37)),
    .r 5 (.mv (.c (.d (.bool true))))])
  .ret)
  .skip))
 (.seq (.reg [.r 38 (.mv (.t 6)),
   .r 39 (.cvi .i64 (.t 38)),
   .r 4 (.mv (.t 39)),
   .r 5 (.mv (.c (.d (.bool true))))])
 .ret)))))))
theorem lT:fits Tryz.prog 182 Tryz.f182 gp [.t 4,.t 5] 2=true:=oK
set_option maxRecDepth 100000 in
set_option maxHeartbeats 40000000 in
noncomputable def cS:(∀ (x0:List Int),{m:Option ((List Int))//∀ r,m=some r->aa Tryz.prog 191 [.slice (List.map o9 x0)] (.slice (List.map o9 r))})×(∀ (x0:List Int) (x1:List Int),{m:Option ((List Int))//∀ r,m=some r->aa Tryz.prog 179 [.slice (List.map o9 x0),.slice (List.map o9 x1)] (.slice (List.map o9 r))})×(∀ (x0:al),{m:Option (Int)//∀ r,m=some r->aa Tryz.prog 162 [.agg (aG x0)] (.int .i64 r)})×(∀ (x0:al) (x1:Int),{m:Option (Int×Bool)//∀ r,m=some r->aa Tryz.prog 182 [.agg (aG x0),.int .i64 x1] (.tup [.int .i64 r.1,.bool r.2])}):=by
 refine⟨?g0, ?g1, ?g2, ?g3⟩
 case' g0=>(intro x0;apply Subtype.mk;intro r hm;apply af Tryz.func191 ul;unfold pz)
 case' g1=>(intro x0 x1;apply Subtype.mk;intro r hm;apply af Tryz.func179 yA;unfold um)
 case' g2=>(intro x0;apply Subtype.mk;intro r hm;apply af Tryz.func162 lp;unfold fT)
 case' g3=>(intro x0 x1;apply Subtype.mk;intro r hm;apply af Tryz.func182 lT;unfold gp)
 all_goals(repeat'(first|with_reducible refine bu ?_|with_reducible refine bt ?_|with_reducible refine bf ?_|with_reducible refine be ?_|with_reducible refine bB ?_|with_reducible refine cg ?_|with_reducible refine bw ?_|with_reducible refine bv ?_|with_reducible refine ck ?_|with_reducible refine bD ?_|with_reducible refine bo ?_|with_reducible refine bE ?_|with_reducible refine du ?_|((with_reducible apply cD hm);(iterate 2 (simp only[push_cast,seval];rfl));(intro _;rfl);intro e hm)|((with_reducible apply Aa hm);(iterate 3 (simp only[push_cast,seval];rfl));(intro _;rfl);intro e hm)|((with_reducible apply iN);(simp only[push_cast,seval];rfl);(first|exact trivial))|((with_reducible apply Ff hm);(iterate 2 (simp only[push_cast,seval];rfl));intro hm)|((with_reducible apply IL hm);(iterate 2 (simp only[push_cast,seval];rfl));intro hm)|((with_reducible apply eE hm);(simp only[push_cast,seval];rfl);rfl;intro v hm;rotate_left;intro v g hm)|((with_reducible apply vh hm);(iterate 4 (simp only[push_cast,seval];rfl));(focus((repeat'(first|rfl|(with_reducible first|apply c9|apply dA|apply ek)));done));decide;(intro _;rfl);intro hm)|((with_reducible apply aQ hm);(simp only[push_cast,seval];rfl);intro hm;rotate_left;intro hm)|((with_reducible apply ge hm);(focus(simp only[a8,cj,RV.get,push_cast,seval];rfl));(focus(first|(dsimp only;done)));(focus((repeat'(first|rfl));done)))|((with_reducible apply bF hm);(focus(simp only[a8,cj,RV.get,push_cast,seval];rfl));(focus((repeat'(first|rfl));done)))|((with_reducible apply bO hm);(simp only[push_cast,seval];rfl))|((with_reducible apply bH hm);intro r hm)|((apply aF (b:=0) (X:=mG) (x:=i6) rfl (fun(c:Unit) (s:(List Int))=>st [(0,.d (.slice (List.map o9 s)))] []) (c:=()) (s0:=_) hm);(focus(first|(dsimp only;done)));(with_reducible refine cz.mk ?_ ?_))|((apply aF (b:=0) (X:=qi) (x:=mi) rfl (fun(c:SV×SV×SV) (s:(List Int)×Int×Int)=>st [(1,c.1),(5,.vec 19),(6,.d (.int .u64 s.2.1)),(20,c.2.1),(21,c.2.2),(22,.d (.int .i64 s.2.2))] [(19,.vec 153 1 (eg o9 s.1))]) (c:=(_,_,_)) (s0:=(_,_,_)) hm);(focus(first|(dsimp only;done)));(with_reducible refine cz.mk ?_ ?_))|(((with_reducible apply Hv (row:=o9) (z:=(0:Int)) hm);(focus(simp only[push_cast,seval];rfl));(focus(simp only[push_cast,seval];rfl));(focus rfl);(focus rfl);intro hm))|((apply aF (b:=0) (X:=fk) (x:=cW) rfl (fun(c:SV×SV×SV×SV) (s:Int×Int)=>st [(1,c.1),(2,c.2.1),(6,.d (.int .u64 s.1)),(14,c.2.2.1),(15,c.2.2.2),(16,.d (.int .i64 s.2))] []) (c:=(_,_,_,_)) (s0:=(_,_)) hm);(focus(first|(dsimp only;done)));(with_reducible refine cz.mk ?_ ?_))|((apply bN (s':=(_,_,_)) hm);(focus(first|(dsimp only;done))))|((apply cJ (s':=(_,_,_)) hm);(focus(first|(dsimp only;done))))|((apply bN (s':=(_,_)) hm);(focus(first|(dsimp only;done))))|((apply cJ (s':=(_,_)) hm);(focus(first|(dsimp only;done))))|((apply bN (s':=_) hm);(focus(first|(dsimp only;done))))|((apply cJ (s':=_) hm);(focus(first|(dsimp only;done))))|(((with_reducible apply dz.of);(focus(first|(dsimp only;done)));(focus((intro _;repeat'(first|with_reducible exact bp|with_reducible refine ba ?_))));(intro s o hm;first|unfold i6|unfold mi|unfold cW);rotate_left;intro s hm))|(((apply bI;(repeat'(first|with_reducible exact aS|with_reducible exact aT|with_reducible apply aL|with_reducible apply ca|((with_reducible apply a_);(focus(first|(simp only[push_cast,seval];rfl)));(focus((repeat'(first|rfl));done)))|((with_reducible apply fx);(focus(first|(simp only[push_cast,seval];rfl)));(first|with_reducible exact cK rfl))));done)))))
noncomputable def mj (x0:List Int):Option ((List Int)):=(cS.1 x0).1
theorem tz (x0:List Int):∀ r,mj x0=some r->aa Tryz.prog 191 [.slice (List.map o9 x0)] (.slice (List.map o9 r)):=(cS.1 x0).2
noncomputable def q7 (x0:List Int) (x1:List Int):Option ((List Int)):=(cS.2.1 x0 x1).1
theorem xZ (x0:List Int) (x1:List Int):∀ r,q7 x0 x1=some r->aa Tryz.prog 179 [.slice (List.map o9 x0),.slice (List.map o9 x1)] (.slice (List.map o9 r)):=(cS.2.1 x0 x1).2
noncomputable def bn (x0:al):Option (Int):=(cS.2.2.1 x0).1
theorem kV (x0:al):∀ r,bn x0=some r->aa Tryz.prog 162 [.agg (aG x0)] (.int .i64 r):=(cS.2.2.1 x0).2
noncomputable def dX (x0:al) (x1:Int):Option (Int×Bool):=(cS.2.2.2 x0 x1).1
theorem lq (x0:al) (x1:Int):∀ r,dX x0 x1=some r->aa Tryz.prog 182 [.agg (aG x0),.int .i64 x1] (.tup [.int .i64 r.1,.bool r.2]):=(cS.2.2.2 x0 x1).2
def sY:SC:=
 (.seq (.reg [.w 4 (.boxM (.c (.agg [.d (.bool false),.nils])))])
 (.seq (.reg [.r 5 (.mv (.t 1)),
   .c 6 (.f 191) [.t 5],
   .r 1 (.mv (.t 6))])
 (.seq (.reg (.r 7 (.mv (.t 0)):: .r 8 (.mv (.t 7))::aK [9,10,11] 8 true (.r 9 (.mv (.t 1)):: .r 10 (.len (.t 9)):: .r 11 (.bin .gtr (.t 10) (.c (.d (.int .i64 0))))::[]) (.r 12 (.pick (.t 8) (.t 11) (.c (.d (.bool false)))):: .r 13 (.mv (.t 1)):: .r 14 (.build [.d (.bool false),.nils] [(0,1,.t 12),(1,1,.t 13)]):: .w 0 (.st 2 (.t 4) (.t 14))::[])))
 .ret)))
theorem x5:fits Tryz.prog 178 Tryz.f178 sY [.cell 4 2] 2=true:=oK
set_option maxRecDepth 100000 in
set_option maxHeartbeats 40000000 in
noncomputable def q8:(∀ (x0:Bool) (x1:List Int),{m:Option (al)//∀ r,m=some r->aa Tryz.prog 178 [.bool x0,.slice (List.map o9 x1)] (.agg (aG r))}):=by
 (intro x0 x1;apply Subtype.mk;intro r hm;apply af Tryz.func178 x5;unfold sY)
 repeat'(first|with_reducible refine bu ?_|with_reducible refine bt ?_|with_reducible refine bB ?_|with_reducible refine bw ?_|with_reducible refine bv ?_|((with_reducible apply iN);(simp only[push_cast,seval];rfl);(first|exact trivial))|((with_reducible apply eE hm);(simp only[push_cast,seval];rfl);rfl;intro v hm;rotate_left;intro v g hm)|((with_reducible apply dJ hm);(simp only[push_cast,seval];rfl);(first|apply tz _);(any_goals((repeat'(first|rfl));done));intro x hm)|((with_reducible apply tQ);(simp only[push_cast,seval];rfl);(first|exact trivial))|((with_reducible apply bF hm);(focus(simp only[a8,cj,RV.get,push_cast,seval];rfl));(focus((repeat'(first|rfl|(with_reducible first|apply yz|apply oq)));done)))|((with_reducible apply bO hm);(simp only[push_cast,seval];rfl)))
noncomputable def p6 (x0:Bool) (x1:List Int):Option (al):=(q8 x0 x1).1
theorem wx (x0:Bool) (x1:List Int):∀ r,p6 x0 x1=some r->aa Tryz.prog 178 [.bool x0,.slice (List.map o9 x1)] (.agg (aG r)):=(q8 x0 x1).2
def wl:SC:=
 (.seq (.reg [.w 2 (.boxM (.c (.agg [.d (.bool false),.nils])))])
 (.seq (.reg [.r 4 (.mv (.t 0)),
   .r 5 (.cvi .u64 (.t 4)),
   .r 3 (.mv (.t 5))])
 (.seq (.seq (.reg [.r 6 (.mv (.t 0)),
   .r 7 (.bin .lss (.t 6) (.c (.d (.int .i64 0))))])
 (.cond (.t 7)
  (.reg [.r 8 (.mv (.t 3)),
    .r 9 (.neg (.t 8)),
    .r 3 (.mv (.t 9))])
  .skip))
 (.seq (.reg [.r 10 (.mv (.t 0)),
   .r 11 (.bin .lss (.t 10) (.c (.d (.int .i64 0)))),
   .r 12 (.mv (.t 3)),
   .r 13 (.cvi .u32 (.t 12)),
   .r 14 (.mv (.t 3)),
   .r 15 (.bin .shr (.t 14) (.c (.d (.int .u64 32)))),
   .r 16 (.cvi .u32 (.t 15)),
   .r 17 (.bslice 1 [.t 13,.t 16]),
   .c 18 (.f 178) [.t 11,.t 17],
   .w 0 (.st 2 (.t 2) (.t 18))])
 .ret))))
theorem Ac:fits Tryz.prog 159 Tryz.f159 wl [.cell 2 2] 1=true:=oK
def cE:SC:=
 (.seq (.reg [.r 31 (.bin .lss (.t 30) (.t 29))])
 (.seq (.cond (.t 31)
  .skip
  (.exit 2))
 (.seq (.block 3 (.seq (.reg [.r 32 (.mv (.t 30)),
    .r 33 (.idx 1 (.t 28) (.t 30)),
    .o 34 (.ld1 (.t 33)),
    .r 9 (.mv (.t 32)),
    .r 10 (.mv (.t 34))])
  (.seq (.reg [.r 35 (.mv (.t 8)),
    .r 36 (.mv (.t 5)),
    .r 37 (.mv (.t 6)),
    .r 38 (.mv (.t 9)),
    .r 39 (.bin .add (.t 37) (.t 38)),
    .r 40 (.idx 1 (.t 36) (.t 39)),
    .o 41 (.ld1 (.t 40)),
    .r 42 (.cvi .u64 (.t 41)),
    .r 43 (.mv (.t 7)),
    .r 44 (.cvi .u64 (.t 43)),
    .r 45 (.mv (.t 10)),
    .r 46 (.cvi .u64 (.t 45)),
    .r 47 (.bin .mul (.t 44) (.t 46)),
    .r 48 (.bin .add (.t 42) (.t 47)),
    .r 49 (.bin .add (.t 35) (.t 48)),
    .r 8 (.mv (.t 49))])
  (.seq (.reg [.r 50 (.mv (.t 5)),
    .r 51 (.mv (.t 6)),
    .r 52 (.mv (.t 9)),
    .r 53 (.bin .add (.t 51) (.t 52)),
    .r 54 (.mv (.t 8)),
    .r 55 (.cvi .u32 (.t 54)),
    .r 56 (.idx 1 (.t 50) (.t 53)),
    .w 0 (.st 1 (.t 56) (.t 55))])
  (.reg [.r 57 (.mv (.t 8)),
    .r 58 (.bin .shr (.t 57) (.c (.d (.int .u64 32)))),
    .r 8 (.mv (.t 58))])))))
 (.reg [.r 59 (.bin .add (.t 30) (.c (.d (.int .i64 1)))),
   .r 30 (.mv (.t 59))]))))
def eF:SC:= .block 2 (.loop cE)
def cF:SC:=
 (.seq (.reg [.r 23 (.bin .lss (.t 22) (.t 21))])
 (.seq (.cond (.t 23)
  .skip
  (.exit 0))
 (.seq (.block 1 (.seq (.reg [.r 24 (.mv (.t 22)),
    .r 25 (.idx 1 (.t 20) (.t 22)),
    .o 26 (.ld1 (.t 25)),
    .r 6 (.mv (.t 24)),
    .r 7 (.mv (.t 26))])
  (.seq (.reg [.r 8 (.mv (.c (.d (.int .u64 0))))])
  (.seq (.seq (.reg [.r 27 (.fld 1 (.t 3)),
    .o 28 (.ld1 (.t 27)),
    .r 29 (.len (.t 28)),
    .r 30 (.mv (.c (.d (.int .i64 0))))])
  eF)
  (.reg [.r 60 (.mv (.t 5)),
    .r 61 (.mv (.t 6)),
    .r 62 (.fld 1 (.t 3)),
    .o 63 (.ld1 (.t 62)),
    .r 64 (.len (.t 63)),
    .r 65 (.bin .add (.t 61) (.t 64)),
    .r 66 (.mv (.t 8)),
    .r 67 (.cvi .u32 (.t 66)),
    .r 68 (.idx 1 (.t 60) (.t 65)),
    .w 0 (.st 1 (.t 68) (.t 67))])))))
 (.reg [.r 69 (.bin .add (.t 22) (.c (.d (.int .i64 1)))),
   .r 22 (.mv (.t 69))]))))
def eG:SC:= .block 0 (.loop cF)
def cv:SC:=(.reg [.r 70 (.fld 0 (.t 2)),
   .o 71 (.ld1 (.t 70)),
   .r 72 (.fld 0 (.t 3)),
   .o 73 (.ld1 (.t 72)),
   .r 74 (.binB .neq (.t 71) (.t 73)),
   .r 75 (.mv (.t 5)),
   .c 76 (.f 178) [.t 74,.t 75],
   .w 0 (.st 2 (.t 4) (.t 76))])
def fE:SC:=
 (.seq (.reg [.r 2 (.boxI (.t 0)),
   .r 3 (.boxI (.t 1)),
   .w 4 (.boxM (.c (.agg [.d (.bool false),.nils])))])
 (.seq (.reg [.r 11 (.fld 1 (.t 2)),
   .o 12 (.ld1 (.t 11)),
   .r 13 (.len (.t 12)),
   .r 14 (.fld 1 (.t 3)),
   .o 15 (.ld1 (.t 14)),
   .r 16 (.len (.t 15)),
   .r 17 (.bin .add (.t 13) (.t 16)),
   .w 18 (.mkS 153 1 (.d (.int .u32 0)) (.t 17) (.t 17)),
   .r 5 (.mv (.t 18))])
 (.seq (.seq (.reg [.r 19 (.fld 1 (.t 2)),
   .o 20 (.ld1 (.t 19)),
   .r 21 (.len (.t 20)),
   .r 22 (.mv (.c (.d (.int .i64 0))))])
 eG)
 (.seq cv
 .ret))))
theorem kW:fits Tryz.prog 160 Tryz.f160 fE [.cell 4 2] 2=true:=oK
def fU:SC:=
 (.seq (.reg [.r 2 (.boxI (.t 0)),
   .r 3 (.boxI (.t 1)),
   .w 4 (.boxM (.c (.agg [.d (.bool false),.nils])))])
 (.seq (.block 0 (.seq (.reg [.r 6 (.fld 0 (.t 2)),
    .o 7 (.ld1 (.t 6)),
    .r 8 (.fld 0 (.t 3)),
    .o 9 (.ld1 (.t 8)),
    .r 10 (.binB .eql (.t 7) (.t 9)),
    .r 5 (.mv (.t 10))])
  (.cond (.t 5)
   (.seq (.regE [.r 11 (.fld 0 (.t 2)),
     .r 12 (.ld1 (.t 11)),
     .r 13 (.fld 1 (.t 2)),
     .r 14 (.ld1 (.t 13)),
     .r 15 (.fld 1 (.t 3)),
     .r 16 (.ld1 (.t 15)),
     .c 17 (.f 179) [.t 14,.t 16],
     .c 18 (.f 178) [.t 12,.t 17],
     .x 0 (.st 2 (.t 4) (.t 18)) []])
   .ret)
   .any)))
 .any))
theorem lr:fits Tryz.prog 161 Tryz.f161 fU [.cell 4 2] 2=true:=oK
def fF:SC:=
 (.seq (.reg [.r 1 (.boxI (.t 0)),
   .w 2 (.boxM (.c (.agg [.d (.bool false),.nils])))])
 (.seq (.reg [.r 3 (.fld 0 (.t 1)),
   .o 4 (.ld1 (.t 3)),
   .r 5 (.not (.t 4)),
   .r 6 (.fld 1 (.t 1)),
   .o 7 (.ld1 (.t 6)),
   .c 8 (.f 178) [.t 5,.t 7],
   .w 0 (.st 2 (.t 2) (.t 8))])
 .ret))
theorem kX:fits Tryz.prog 163 Tryz.f163 fF [.cell 2 2] 1=true:=oK
set_option maxRecDepth 100000 in
set_option maxHeartbeats 40000000 in
noncomputable def cT:(∀ (x0:Int),{m:Option (al)//∀ r,m=some r->aa Tryz.prog 159 [.int .i64 x0] (.agg (aG r))})×(∀ (x0:al) (x1:al),{m:Option (al)//∀ r,m=some r->aa Tryz.prog 160 [.agg (aG x0),.agg (aG x1)] (.agg (aG r))})×(∀ (x0:al) (x1:al),{m:Option (al)//∀ r,m=some r->aa Tryz.prog 161 [.agg (aG x0),.agg (aG x1)] (.agg (aG r))})×(∀ (x0:al),{m:Option (al)//∀ r,m=some r->aa Tryz.prog 163 [.agg (aG x0)] (.agg (aG r))}):=by
 refine⟨?g0, ?g1, ?g2, ?g3⟩
 case' g0=>(intro x0;apply Subtype.mk;intro r hm;apply af Tryz.func159 Ac;unfold wl)
 case' g1=>(intro x0 x1;apply Subtype.mk;intro r hm;apply af Tryz.func160 kW;unfold fE)
 case' g2=>(intro x0 x1;apply Subtype.mk;intro r hm;apply af Tryz.func161 lr;unfold fU)
 case' g3=>(intro x0;apply Subtype.mk;intro r hm;apply af Tryz.func163 kX;unfold fF)
 all_goals(repeat'(first|((with_reducible apply FG (x:=cv) 5);(focus(simp only[push_cast,seval];(try rfl);done));(focus(simp only[push_cast,seval];(try rfl);done));(focus(simp only[push_cast,seval];(try rfl);done));unfold cv)|with_reducible refine bu ?_|with_reducible refine bt ?_|with_reducible refine zM ?_|with_reducible refine bf ?_|with_reducible refine be ?_|with_reducible refine bB ?_|with_reducible refine cg ?_|with_reducible refine bw ?_|with_reducible refine bv ?_|with_reducible refine ck ?_|with_reducible refine bD ?_|with_reducible refine bo ?_|with_reducible refine bE ?_|with_reducible refine du ?_|((with_reducible apply cD hm);(iterate 2 (simp only[push_cast,seval];rfl));(intro _;rfl);intro e hm)|((with_reducible apply GG hm);(iterate 3 (simp only[push_cast,seval];rfl));intro e hm)|((with_reducible apply iN);(simp only[push_cast,seval];rfl);(first|exact trivial))|((with_reducible apply GH hm);(iterate 2 (simp only[push_cast,seval];rfl));(intro _;rfl);intro e hm)|((with_reducible apply Ff hm);(iterate 2 (simp only[push_cast,seval];rfl));intro hm)|(with_reducible apply uh hm)|((with_reducible apply dJ hm);(simp only[push_cast,seval];rfl);(first|apply wx _ _|apply xZ _ _);(any_goals((repeat'(first|rfl|(with_reducible first|apply c9|apply dB|apply dA|apply ek)));done));intro x hm)|((with_reducible apply tQ);(simp only[push_cast,seval];rfl);(first|exact trivial))|((with_reducible apply IW hm);(iterate 3 (simp only[push_cast,seval];rfl));rfl;(intro _;rfl);rfl;(focus(intro a;simp only[push_cast,seval];rfl));(focus(intro a;(repeat'(first|rfl));done));intro e hm)|((with_reducible apply Jd);(simp only[push_cast,seval];rfl);(first|exact trivial);(focus((repeat'(first|exact ue));done)))|((with_reducible apply aQ hm);(simp only[push_cast,seval];rfl);intro hm;rotate_left;intro hm)|((with_reducible apply bF hm);(focus(simp only[a8,cj,RV.get,push_cast,seval];rfl));(focus((repeat'(first|rfl));done)))|((with_reducible apply bH hm);intro r hm)|((apply aF (b:=2) (X:=eF) (x:=cE) rfl (fun(c:SV×SV×Ch×SV×SV×SV×SV×SV×SV×SV) (s:(List Int)×Int×Int)=>st [(2,c.1),(3,c.2.1),(4,.ref 4 0),(5,.vec 18),(6,c.2.2.2.1),(7,c.2.2.2.2.1),(8,.d (.int .u64 s.2.1)),(20,c.2.2.2.2.2.1),(21,c.2.2.2.2.2.2.1),(22,c.2.2.2.2.2.2.2.1),(28,c.2.2.2.2.2.2.2.2.1),(29,c.2.2.2.2.2.2.2.2.2),(30,.d (.int .i64 s.2.2))] [(4,c.2.2.1),(18,.vec 153 1 (eg o9 s.1))]) (c:=(_,_,_,_,_,_,_,_,_,_)) (s0:=(_,_,_)) hm);(focus(first|(dsimp only;done)));(with_reducible refine cz.mk ?_ ?_))|((apply aF (b:=0) (X:=eG) (x:=cF) rfl (fun(c:SV×SV×Ch×SV×SV) (s:(List Int)×Int)=>st [(2,c.1),(3,c.2.1),(4,.ref 4 0),(5,.vec 18),(20,c.2.2.2.1),(21,c.2.2.2.2),(22,.d (.int .i64 s.2))] [(4,c.2.2.1),(18,.vec 153 1 (eg o9 s.1))]) (c:=(_,_,_,_,_)) (s0:=(_,_)) hm);(focus(first|(dsimp only;done)));(with_reducible refine cz.mk ?_ ?_))|(((with_reducible apply Hv (row:=o9) (z:=(0:Int)) hm);(focus(simp only[push_cast,seval];rfl));(focus(simp only[push_cast,seval];rfl));(focus rfl);(focus rfl);intro hm))|((apply bN (s':=(_,_,_)) hm);(focus(first|(dsimp only;done))))|((apply cJ (s':=(_,_,_)) hm);(focus(first|(dsimp only;done))))|((apply bN (s':=(_,_)) hm);(focus(first|(dsimp only;done))))|((apply cJ (s':=(_,_)) hm);(focus(first|(dsimp only;done))))|(((with_reducible apply dz.of);(focus(first|(dsimp only;done)));(focus((intro _;repeat'(first|with_reducible exact bp|with_reducible refine ba ?_|with_reducible refine dP ?_|((with_reducible refine ii ?_);intro _)|((with_reducible refine ij ?_);intro _)))));(intro s o hm;first|unfold cE|unfold cF);rotate_left;intro s hm))|(((apply bI;(repeat'(first|with_reducible exact aS|with_reducible exact aT|with_reducible apply aL|with_reducible apply ca|((with_reducible apply a_);(focus(first|(simp only[push_cast,seval];rfl)));(focus((repeat'(first|rfl));done)))|((with_reducible apply fx);(focus(first|(simp only[push_cast,seval];rfl)));(first|with_reducible exact cK rfl))));done)))))
 all_goals(intros;exact())
noncomputable def p7 (x0:Int):Option (al):=(cT.1 x0).1
theorem yB (x0:Int):∀ r,p7 x0=some r->aa Tryz.prog 159 [.int .i64 x0] (.agg (aG r)):=(cT.1 x0).2
noncomputable def ce (x0:al) (x1:al):Option (al):=(cT.2.1 x0 x1).1
theorem kw (x0:al) (x1:al):∀ r,ce x0 x1=some r->aa Tryz.prog 160 [.agg (aG x0),.agg (aG x1)] (.agg (aG r)):=(cT.2.1 x0 x1).2
noncomputable def co (x0:al) (x1:al):Option (al):=(cT.2.2.1 x0 x1).1
theorem kY (x0:al) (x1:al):∀ r,co x0 x1=some r->aa Tryz.prog 161 [.agg (aG x0),.agg (aG x1)] (.agg (aG r)):=(cT.2.2.1 x0 x1).2
noncomputable def bh (x0:al):Option (al):=(cT.2.2.2 x0).1
theorem kz (x0:al):∀ r,bh x0=some r->aa Tryz.prog 163 [.agg (aG x0)] (.agg (aG r)):=(cT.2.2.2 x0).2
end Go.Proofs.YtgocgdgknpdknaaGreatDoor
