/-
  Laws on the way to the theorem.
-/
import Derived.Ground.NamesProg
import Derived.Shelf.Strings.SlTrimAscii
import Derived.Shelf.Small.Strs
import Derived.Shelf.Strings.IndexAnyAll
import Derived.Test.YtgmnipfafmphaaaGreatDoorProg
import Derived.Test.YtgmnipfafmphaaaGreatDoorSXEngY
namespace Go.Proofs
open Go.Proofs.YtgmnipfafmphaaaGreatDoor
open Go.Shelf
def Tryz.lays160_ren:Go.Shelf.Ren:=⟨fun|160=>81|232=>116|231=>115|227=>117|234=>119|233=>118|236=>121|235=>120|228=>151|271=>154|151=>153|197=>152|120=>175|152=>174|260=>173|137=>89|119=>184|224=>186|225=>168|217=>132|266=>161|n=>n,fun|9=>9|4=>4|3=>3|5=>5|117=>182|116=>181|0=>0|124=>185|21=>21|105=>207|46=>218|119=>245|139=>248|138=>247|n=>n,fun|3=>4|4=>5|n=>n⟩
theorem Tryz.lays160:Go.Proofs.Lays.n160 Tryz.prog Tryz.lays160_ren:={
 mixed:=oK
 f119:=Tryz.func184.trans (Wf some oK)
 f120:=Tryz.func175.trans (Wf some oK)
 f137:=Tryz.func89.trans (Wf some oK)
 f151:=Tryz.func153.trans (Wf some oK)
 f152:=Tryz.func174.trans (Wf some oK)
 f160:=Tryz.func81.trans (Wf some oK)
 f197:=Tryz.func152.trans (Wf some oK)
 f217:=Tryz.func132.trans (Wf some oK)
 f224:=Tryz.func186.trans (Wf some oK)
 f225:=Tryz.func168.trans (Wf some oK)
 f227:=Tryz.func117.trans (Wf some oK)
 f228:=Tryz.func151.trans (Wf some oK)
 f231:=Tryz.func115.trans (Wf some oK)
 f232:=Tryz.func116.trans (Wf some oK)
 f233:=Tryz.func118.trans (Wf some oK)
 f234:=Tryz.func119.trans (Wf some oK)
 f235:=Tryz.func120.trans (Wf some oK)
 f236:=Tryz.func121.trans (Wf some oK)
 f260:=Tryz.func173.trans (Wf some oK)
 f266:=Tryz.func161.trans (Wf some oK)
 f271:=Tryz.func154.trans (Wf some oK)
 t0:=Tryz.underlying0
 a0:=Tryz.isAgg0
 z0:=Tryz.sizeOf0
 v0:=Tryz.zeroValue0
 t3:=Tryz.underlying3
 a3:=Tryz.isAgg3
 z3:=Tryz.sizeOf3
 v3:=Tryz.zeroValue3
 t4:=Tryz.underlying4
 a4:=Tryz.isAgg4
 z4:=Tryz.sizeOf4
 v4:=Tryz.zeroValue4
 t5:=Tryz.underlying5
 a5:=Tryz.isAgg5
 z5:=Tryz.sizeOf5
 v5:=Tryz.zeroValue5
 t9:=Tryz.underlying9
 a9:=Tryz.isAgg9
 z9:=Tryz.sizeOf9
 v9:=Tryz.zeroValue9
 t21:=Tryz.underlying21
 a21:=Tryz.isAgg21
 z21:=Tryz.sizeOf21
 v21:=Tryz.zeroValue21
 t46:=Tryz.underlying218
 a46:=Tryz.isAgg218
 z46:=Tryz.sizeOf218
 v46:=Tryz.zeroValue218
 t105:=Tryz.underlying207
 a105:=Tryz.isAgg207
 z105:=Tryz.sizeOf207
 v105:=Tryz.zeroValue207
 t116:=Tryz.underlying181
 a116:=Tryz.isAgg181
 z116:=Tryz.sizeOf181
 t117:=Tryz.underlying182
 a117:=Tryz.isAgg182
 z117:=Tryz.sizeOf182
 v117:=Tryz.zeroValue182
 t119:=Tryz.underlying245
 a119:=Tryz.isAgg245
 z119:=Tryz.sizeOf245
 t124:=Tryz.underlying185
 a124:=Tryz.isAgg185
 z124:=Tryz.sizeOf185
 v124:=Tryz.zeroValue185
 t138:=Tryz.underlying247
 a138:=Tryz.isAgg247
 z138:=Tryz.sizeOf247
 v138:=Tryz.zeroValue247
 t139:=Tryz.underlying248
 a139:=Tryz.isAgg248
 z139:=Tryz.sizeOf248
 v139:=Tryz.zeroValue248
 g3:=oK
 g4:=by kernel_rfl}
def Tryz.lays137_ren:Go.Shelf.Ren:=⟨fun|137=>89|217=>132|266=>161|n=>n,fun|9=>9|5=>5|3=>3|n=>n,fun|n=>n⟩
theorem Tryz.lays137:Go.Proofs.Lays.n137 Tryz.prog Tryz.lays137_ren:={
 mixed:=oK
 f137:=Tryz.func89.trans (Wf some oK)
 f217:=Tryz.func132.trans (Wf some oK)
 f266:=Tryz.func161.trans (Wf some oK)
 t3:=Tryz.underlying3
 a3:=Tryz.isAgg3
 z3:=Tryz.sizeOf3
 v3:=Tryz.zeroValue3
 t5:=Tryz.underlying5
 a5:=Tryz.isAgg5
 z5:=Tryz.sizeOf5
 v5:=Tryz.zeroValue5
 t9:=Tryz.underlying9
 a9:=Tryz.isAgg9
 z9:=Tryz.sizeOf9
 v9:=Tryz.zeroValue9}
def Tryz.lays150_ren:Go.Shelf.Ren:=⟨fun|150=>130|153=>160|152=>174|226=>181|227=>117|228=>151|137=>89|119=>184|224=>186|225=>168|217=>132|266=>161|n=>n,fun|9=>9|4=>4|3=>3|5=>5|21=>21|117=>182|116=>181|0=>0|46=>218|124=>185|n=>n,fun|n=>n⟩
theorem Tryz.lays150:Go.Proofs.Lays.n150 Tryz.prog Tryz.lays150_ren:={
 mixed:=oK
 f119:=Tryz.func184.trans (Wf some oK)
 f137:=Tryz.func89.trans (Wf some oK)
 f150:=Tryz.func130.trans (Wf some oK)
 f152:=Tryz.func174.trans (Wf some oK)
 f153:=Tryz.func160.trans (Wf some oK)
 f217:=Tryz.func132.trans (Wf some oK)
 f224:=Tryz.func186.trans (Wf some oK)
 f225:=Tryz.func168.trans (Wf some oK)
 f226:=Tryz.func181.trans (Wf some oK)
 f227:=Tryz.func117.trans (Wf some oK)
 f228:=Tryz.func151.trans (Wf some oK)
 f266:=Tryz.func161.trans (Wf some oK)
 t0:=Tryz.underlying0
 a0:=Tryz.isAgg0
 z0:=Tryz.sizeOf0
 v0:=Tryz.zeroValue0
 t3:=Tryz.underlying3
 a3:=Tryz.isAgg3
 z3:=Tryz.sizeOf3
 v3:=Tryz.zeroValue3
 t4:=Tryz.underlying4
 a4:=Tryz.isAgg4
 z4:=Tryz.sizeOf4
 v4:=Tryz.zeroValue4
 t5:=Tryz.underlying5
 a5:=Tryz.isAgg5
 z5:=Tryz.sizeOf5
 v5:=Tryz.zeroValue5
 t9:=Tryz.underlying9
 a9:=Tryz.isAgg9
 z9:=Tryz.sizeOf9
 v9:=Tryz.zeroValue9
 t21:=Tryz.underlying21
 a21:=Tryz.isAgg21
 z21:=Tryz.sizeOf21
 v21:=Tryz.zeroValue21
 t46:=Tryz.underlying218
 a46:=Tryz.isAgg218
 z46:=Tryz.sizeOf218
 v46:=Tryz.zeroValue218
 t116:=Tryz.underlying181
 a116:=Tryz.isAgg181
 z116:=Tryz.sizeOf181
 t117:=Tryz.underlying182
 a117:=Tryz.isAgg182
 z117:=Tryz.sizeOf182
 v117:=Tryz.zeroValue182
 t124:=Tryz.underlying185
 a124:=Tryz.isAgg185
 z124:=Tryz.sizeOf185
 v124:=Tryz.zeroValue185}
end Go.Proofs
namespace Go.Proofs.YtgmnipfafmphaaaGreatDoor
set_option linter.unusedSimpArgs false
set_option linter.unusedVariables false
open Go.RowKit Go.Shelf
def gS (s cs:List UInt8):Option (List UInt8):=if s.length<=9223372036854775807/\cs.length<4294967281/\cs.all (fun b=>decide (b.toNat<128))=true then some (Lib.trimS s cs) else none
theorem sZ (s cs:List UInt8):∀ r,gS s cs=some r->ac Tryz.prog 81 [.str s,.str cs] (.str r):=by
 intro r D
 unfold gS at D
 split at D
 ·rename_i h
  obtain⟨h1,h2,E⟩:=h
  cases D
  refine⟨by kernel_rfl,fun w M vs hM hv _=> ?_⟩
  simp only[aM,bf] at hv
  obtain⟨u,X,rfl,rfl,n,g,rfl,rfl,rfl⟩:=hv
  have f:=Any.strings_Trim_laid Tryz.lays160 oK ⟨s.toArray⟩ ⟨cs.toArray⟩ w (by simpa[ByteArray.size] using h1) (by simpa[ByteArray.size] using h2) (ascii_of_all (by simpa using E))
  refine Calls.mono f ?_
  rintro e w' ⟨rfl,hB⟩
  exact⟨_,rfl,by simp[bf],hB⟩
 ·cases D
end Go.Proofs.YtgmnipfafmphaaaGreatDoor
namespace Go.Proofs.YtgmnipfafmphaaaGreatDoor
set_option linter.unusedSimpArgs false
set_option linter.unusedVariables false
open Go.RowKit Go.Shelf
def ra (s:List UInt8) (c:UInt8):Option Int:=some (Lib.indexByte s c)
theorem uU (s:List UInt8) (c:UInt8):∀ r,ra s c=some r->ac Tryz.prog 89 [.str s,.int .u8 c.toNat] (.int .i64 r):=by
 intro r D
 cases D
 refine⟨by kernel_rfl,fun w M vs hM hv _=> ?_⟩
 simp only[aM,bf] at hv
 obtain⟨u,X,rfl,rfl,n,g,rfl,rfl,rfl⟩:=hv
 have f:=Any.strings_IndexByte Tryz.lays137 ⟨s.toArray⟩ (c.toNat:Int) w
 refine Calls.mono f ?_
 rintro e w' ⟨rfl,rfl⟩
 refine⟨_,rfl, ?_,Below.refl _ _⟩
 simp only[bf]
 have:((c.toNat:Int)).toNat.toUInt8=c:=by simp
 rw[this]
def iT (s cs:List UInt8):Option Bool:=if s.length<4294967281/\cs.length<4294967281/\s.all (fun b=>decide (b.toNat<128))=true/\cs.all (fun b=>decide (b.toNat<128))=true then some (Lib.containsAny s cs) else none
theorem tw (s cs:List UInt8):∀ r,iT s cs=some r->ac Tryz.prog 130 [.str s,.str cs] (.bool r):=by
 intro r D
 unfold iT at D
 split at D
 ·rename_i h
  obtain⟨h1,h2,E,h4⟩:=h
  cases D
  refine⟨by kernel_rfl,fun w M vs hM hv _=> ?_⟩
  simp only[aM,bf] at hv
  obtain⟨u,X,rfl,rfl,n,g,rfl,rfl,rfl⟩:=hv
  have a:∀ (l:List UInt8),l.all (fun b=>decide (b.toNat<128))=true->∀ (j:Nat) b,l[j]?=some b->b.toNat<128:=fun l hl j b hb=>by
   have:=VN.1 hl b (Vq hb)
   simpa using this
  have f:=Any.strings_ContainsAny_laid Tryz.lays150 oK ⟨s.toArray⟩ ⟨cs.toArray⟩ w (by simpa[ByteArray.size] using h1) (by simpa[ByteArray.size] using h2) (a s E) (a cs h4)
  refine Calls.mono f ?_
  rintro e w' ⟨rfl,hB⟩
  exact⟨_,rfl,by simp[bf],hB⟩
 ·cases D
end Go.Proofs.YtgmnipfafmphaaaGreatDoor
namespace Go.Proofs.YtgmnipfafmphaaaGreatDoor
abbrev SO.v (d n:Nat):SO:= .r d (.mv (.t n))
abbrev SX.i (n:Int):SX:= .c (.d (.int .i64 n))
abbrev SX.b (x:Bool):SX:= .c (.d (.bool x))
abbrev SO.l (d n:Nat):SO:= .o d (.ld1 (.t n))
abbrev SO.f (d k n:Nat):SO:= .r d (.fld k (.t n))
abbrev SO.n (d n:Nat):SO:= .r d (.nilc (.t n))
abbrev SO.e (d n k:Nat):SO:= .r d (.ext (.t n) k)
abbrev SO.h (d n:Nat):SO:= .r d (.len (.t n))
abbrev SO.k (d:Nat) (o:BinOp) (a b:Nat):SO:= .r d (.bin o (.t a) (.t b))
abbrev SO.j (d:Nat) (o:BinOp) (a:Nat) (n:Int):SO:= .r d (.bin o (.t a) (.i n))
abbrev SO.y (d k a b:Nat):SO:= .r d (.idx k (.t a) (.t b))
attribute [push_cast] SX.i SX.b
abbrev SO.s (k a b:Nat):SO:= .w 0 (.st k (.t a) (.t b))
abbrev SO.a (d k n:Nat):SO:= .o d (.ldA k (.t n))
abbrev SC.sq (l:List SO) (k:SC):SC:= .seq (.reg l) k
theorem U6 {p:Prop} (h:p:=by first|(try(apply bt.trans;focus(apply DR (id:=40010) (f:=40020) (off:=3) (n':=2) (H:=aE) (ms:=[.sh,.sh,.sh,.sl 37 [.sh,.sh]]) (A:=af) (x':=aL.mk _ _ _ _);exact bi;rotate_left;(focus rfl);exact bi;exact tB;(focus rfl);exact a6;(focus exact Xk (Xp _));exact bi;(focus decide);(first|focus exact jk oA))));(try(apply bt.trans;focus(apply rS (id:=1102) (f:=40010) (off:=2) (n':=4) (H:=aK) (ms:=[.sh,.sh,.sl 93 [.sh,.sh,.sh,.sl 37 [.sh,.sh]]]) (A:=aE) (S:=[.sh,.sh,.sh,.sl 37 [.sh,.sh]]) (x':=aU.mk _ _ _);exact bi;exact bi;rotate_left;(focus rfl);exact Ev;(focus rfl);(focus rfl);exact a6;(focus exact Xk (Xp _));exact bi;(focus decide);(first|focus exact jk oA))));(try(apply bt.trans;focus(apply kg 1070 [.sh,.sh,.sl 93 [.sh,.sh,.sh,.sl 37 [.sh,.sh]]] aK;exact bi;exact pd)));(try(apply bt.trans;focus(apply nQ 1070 [.sh,.sh,.sl 93 [.sh,.sh,.sh,.sl 37 [.sh,.sh]]] aK;exact bi;exact pd)));(try(apply bt.trans;focus(apply kg 1102 [.sh,.sh,.sl 93 [.sh,.sh,.sh,.sl 37 [.sh,.sh]]] aK;exact bi;exact pd)));(try(apply bt.trans;focus(apply nQ 1102 [.sh,.sh,.sl 93 [.sh,.sh,.sh,.sl 37 [.sh,.sh]]] aK;exact bi;exact pd)));apply j_;(repeat'(first|(with_reducible first|exact fY|exact fZ|apply eq|apply fa)|(with_reducible apply gH);exact jA;exact cY|(with_reducible apply lb);exact jA;(first|(with_reducible first|exact bT rfl|apply fO))|(with_reducible first|apply DS)));done|fail):p:=h
theorem U7 {p:Prop} (h:p:=by first|(try(apply bt.trans;exact T3));(try(apply bt.trans;exact T9));(try(apply bt.trans;exact SZ));(try(apply bt.trans;exact OS));(try(apply bt.trans;exact J4));exact bt.refl _|fail):p:=h
theorem U0 {p:Prop} (h:p:=by first|((try(apply bt.trans;(focus((apply kN (id:=40010) (t:=40011) (off:=4) (kk:= .str) (G:= .str) (w:=(fun v=> .bool v)));exact ai;exact ai;(focus decide);exact ai;(focus(first|exact bT rfl));exact ai))));(try(apply bt.trans;focus(apply p6 (id:=1000) (C:=40010) (ms:=[.sh,.sh,.sh,.sh,.mp .str .sh]) (H:=a7);exact ai;exact ai;exact pd;exact a6;(focus(fail));focus decide)));(try(apply bt.trans;exact U_));(try(apply bt.trans;exact J4));exact bt.refl _)|fail):p:=h
theorem U1 {p:Prop} (h:p:=by first|(try(apply bt.trans;exact U_));(try(apply bt.trans;exact J4));exact bt.refl _|fail):p:=h
theorem U2 {p:Prop} (h:p:=by first|(try(apply bt.trans;exact OS));(try(apply bt.trans;exact J4));exact bt.refl _|fail):p:=h
theorem Uq {p:Prop} (h:p:=by first|(try(apply bt.trans;exact T4));(try(apply bt.trans;exact SW));exact bt.refl _|fail):p:=h
theorem U8 {p:Prop} (h:p:=by first|apply j_;(repeat'(first|(with_reducible first|exact fY|exact fZ|apply eq|apply fa)|(with_reducible apply gH);(focus(first|exact aj|rfl));exact Uh|(with_reducible apply GW);(focus(first|rfl));exact jA;exact S1|(with_reducible apply lb);exact jA;(first|(with_reducible first|exact bT rfl|apply wd))|(with_reducible first|apply xG|apply m9)));done|fail):p:=h
theorem U9 {p:Prop} (h:p:=by first|((apply kO (id:=0) (f:=1000) (off:=0) (n:=1) (e:=148) (ms:=[.pt [.sh,.sh,.sh,.sh,.mp .str .sh]]) (H:=(l6 a7)));exact dI;exact dI;(focus decide);exact dI;exact Ev;(focus rfl);exact a6;exact dI)|fail):p:=h
theorem U_ {p:Prop} (h:p:=by first|((apply kO (id:=0) (f:=1000) (off:=0) (n:=1) (e:=148) (ms:=[.pt [.sh,.sh,.sh,.sh,.mp .str .sh]]) (H:=(l6 a7)));exact ai;exact ai;(focus decide);exact ai;exact Ev;(focus rfl);exact a6;exact ai)|fail):p:=h
theorem TX {p:Prop} (h:p:=by first|apply dW (id:=0) (f:=1001) (off:=1) (n:=2) (e:=69);exact dI;exact dI;(focus decide);exact dI;exact tB;exact a6;exact dI|fail):p:=h
theorem OS {p:Prop} (h:p:=by first|apply kO (id:=0) (f:=1000) (off:=0) (n:=4) (e:=127) (ms:=[.sh,.sh,.sh,.sl 9 [.sh]]) (H:=an);exact ai;exact ai;(focus decide);exact ai;exact Ev;(focus rfl);exact a6;exact ai|fail):p:=h
theorem TY {p:Prop} (h:p:=by first|apply Dm (id:=1000) (f:=1227) (off:=3) (n':=1) (H:=an) (ms:=[.sh,.sh,.sh,.sl 9 [.sh]]) (A:=dr) (S:=[.sh]);exact bi;exact bi;(focus rfl);(focus((repeat'(first|(with_reducible first|apply TB)));done));(focus rfl);exact a6;(focus(first|exact iS oA));(focus decide);exact bi|fail):p:=h
theorem TZ {p:Prop} (h:p:=by first|apply Ft (id:=1000) (H:=an) (ms:=[.sh,.sh,.sh,.sl 9 [.sh]]) (x':=aZ.mk _ _ _ _);exact bi;focus((repeat'(first|(with_reducible first|apply jK)|(with_reducible apply gH);(focus(first|rfl));exact cY|(with_reducible apply oI);(focus rfl);exact cY|fail));done)|fail):p:=h
theorem SU {p:Prop} (h:p:=by first|apply j_;(repeat'(first|(with_reducible first|exact fY|exact fZ|apply eq|apply fa)|(with_reducible apply gH);exact jA;exact cY|(with_reducible apply lb);exact jA;(first|(with_reducible first|exact bT rfl|apply fO))|(with_reducible first|apply DS)));done|fail):p:=h
theorem T0 {p:Prop} (h:p:=by first|((apply kN (id:=40010) (t:=40011) (off:=4) (kk:= .str) (G:= .str) (w:=(fun v=> .bool v)));exact dI;exact dI;(focus decide);exact dI;(focus(fail));exact dI)|fail):p:=h
theorem J3 {p:Prop} (h:p:=by first|apply j_;(repeat'(first|(with_reducible first|exact fY|exact fZ|apply eq|apply fa)|(with_reducible apply gH);exact jA;exact cY|(with_reducible apply lb);exact jA;(first|(with_reducible first|exact bT rfl|apply fO))|(with_reducible first|apply FF)));done|fail):p:=h
theorem T1 {p:Prop} (h:p:=by first|((apply kN (id:=98) (t:=96) (off:=4) (kk:= .str) (G:= .str) (w:=(fun v=> .bool v)));exact dI;exact dI;(focus decide);exact dI;(focus(fail));exact dI)|fail):p:=h
theorem T2 {p:Prop} (h:p:=by first|((apply kN (id:=39) (t:=37) (off:=4) (kk:= .str) (G:= .str) (w:=(fun v=> .bool v)));exact dI;exact dI;(focus decide);exact dI;(focus(fail));exact dI)|fail):p:=h
theorem Mn {p:Prop} (h:p:=by first|(repeat'(first|exact j9|((with_reducible apply P5);exact bi;exact bi;rotate_left 2;exact jA;rotate_left;(focus assumption);exact a6)|(with_reducible apply lj);exact bi;exact OT;focus(simp only[push_cast,seval])|fail));done|fail):p:=h
theorem T3 {p:Prop} (h:p:=by first|apply Dm (id:=1000) (f:=1227) (off:=3) (n':=1) (H:=an) (ms:=[.sh,.sh,.sh,.sl 9 [.sh]]) (A:=dr) (S:=[.sh]);exact bi;exact bi;(focus rfl);exact pd;(focus rfl);exact a6;(focus(fail));(focus decide);exact bi|fail):p:=h
theorem T4 {p:Prop} (h:p:=by first|apply dW (id:=0) (f:=1007) (off:=7) (n:=2) (e:=37);exact ai;exact ai;(focus decide);exact ai;exact tB;exact a6;exact ai|fail):p:=h
theorem J4 {p:Prop} (h:p:=by first|apply dW (id:=0) (f:=1001) (off:=1) (n:=2) (e:=69);exact ai;exact ai;(focus decide);exact ai;exact tB;exact a6;exact ai|fail):p:=h
theorem SW {p:Prop} (h:p:=by first|apply dW (id:=0) (f:=1008) (off:=8) (n:=1) (e:=3);exact ai;exact ai;(focus decide);exact ai;exact tB;exact a6;exact ai|fail):p:=h
theorem J5 {p:Prop} (h:p:=by first|apply j_;(repeat'(first|(with_reducible first|exact fY|exact fZ|apply eq|apply fa)|(with_reducible apply gH);exact jA;exact cY|(with_reducible apply lb);exact jA;(first|with_reducible exact bT rfl)|fail));done|fail):p:=h
theorem A0 {p:Prop} (h:p:=by first|apply j_;(repeat'(first|(with_reducible first|exact fY|exact fZ|apply eq|apply fa)|(with_reducible apply gH);exact jA;exact cY|(with_reducible apply lb);exact jA;(first|with_reducible exact bT rfl)|fail));done|fail):p:=h
theorem QF {p:Prop} (h:p:=by first|apply j_;(repeat'(first|(with_reducible first|exact fY|exact fZ|apply eq|apply fa)|(with_reducible apply gH);exact jA;exact cY|(with_reducible apply lb);exact jA;(first|with_reducible exact bT rfl)|fail));done|fail):p:=h
theorem T5 {p:Prop} (h:p:=by first|(repeat'(first|(with_reducible first|apply se|apply m9)|(with_reducible apply gH);(focus(first|rfl));exact cY|(with_reducible apply oI);(focus rfl);exact cY|fail));done|fail):p:=h
theorem J6 {p:Prop} (h:p:=by first|(repeat'(first|(with_reducible first|apply BJ|apply m9)|(with_reducible apply gH);(focus(first|rfl));exact cY|(with_reducible apply oI);(focus rfl);exact cY|fail));done|fail):p:=h
theorem QG {p:Prop} (h:p:=by first|(repeat'(first|(with_reducible first|apply EO)|(with_reducible apply gH);(focus(first|rfl));exact cY|(with_reducible apply oI);(focus rfl);exact cY|fail));done|fail):p:=h
theorem He {p:Prop} (h:p:=by first|apply j_;(repeat'(first|(with_reducible first|exact fY|exact fZ|apply eq)|(with_reducible apply gH);exact jA;exact cY|fail));done|fail):p:=h
theorem T6 {p:Prop} (h:p:=by first|(repeat'(first|(with_reducible first|apply pI|apply rX|apply uJ|apply B3)|(with_reducible apply rU);exact cY|(with_reducible apply zk);focus rfl));done|fail):p:=h
theorem T7 {p:Prop} (h:p:=by first|(repeat'(first|(with_reducible first|apply pI|apply rX|apply uJ|apply EP)|(with_reducible apply rU);exact cY|(with_reducible apply zk);focus rfl));done|fail):p:=h
theorem T8 {p:Prop} (h:p:=by first|(repeat'(first|rfl|(with_reducible first|apply q_|apply tk|apply KG|apply BA|apply rV|apply uF|apply rW)|(with_reducible apply Ay;decide)));done|fail):p:=h
theorem T9 {p:Prop} (h:p:=by first|apply Ft (id:=1000) (H:=an) (ms:=[.sh,.sh,.sh,.sl 9 [.sh]]) (x':=aZ.mk _ _ _ _);exact bi;exact pd|fail):p:=h
theorem IO {p:Prop} (h:p:=by first|(repeat'(first|(with_reducible first|apply rE|apply m9)|(with_reducible apply gH);(focus(first|rfl));exact cY|fail));done|fail):p:=h
theorem T_ {p:Prop} (h:p:=by first|intro _ _;(repeat'(first|exact j9|(with_reducible apply lj);exact bi;exact OT;focus(simp only[push_cast,seval])|fail));done|fail):p:=h
theorem SY {p:Prop} (h:p:=by first|intro _;(repeat'(first|exact j9|(with_reducible apply lj);exact bi;exact OT;focus(simp only[push_cast,seval])|fail));done|fail):p:=h
theorem xL {p:Prop} (h:p:=by first|(repeat'(first|exact j9|(with_reducible apply lj);exact bi;exact OT;focus(simp only[push_cast,seval])|fail));done|fail):p:=h
theorem Hf {p:Prop} (h:p:=by first|(repeat'(first|(with_reducible first|apply ig)|(with_reducible apply oI);(focus rfl);exact cY|fail));done|fail):p:=h
theorem Hg {p:Prop} (h:p:=by first|(repeat'(first|(with_reducible first|apply AH)|(with_reducible apply oI);(focus rfl);exact cY|fail));done|fail):p:=h
theorem Ua {p:Prop} (h:p:=by first|(repeat'(first|(with_reducible first|apply RX|apply rX)|(with_reducible apply rU);exact cY|fail));done|fail):p:=h
theorem Ub {p:Prop} (h:p:=by first|apply la (id:=101000);exact ai;exact ai|fail):p:=h
theorem Uc {p:Prop} (h:p:=by first|apply la (id:=101001);exact ai;exact ai|fail):p:=h
theorem Ud {p:Prop} (h:p:=by first|apply la (id:=101227);exact ai;exact ai|fail):p:=h
theorem SZ {p:Prop} (h:p:=by first|apply la (id:=1227);exact ai;exact ai|fail):p:=h
theorem Ue {p:Prop} (h:p:=by first|(repeat'(first|rfl|(with_reducible first|apply tk|apply BA|apply uF)|(with_reducible apply Ay;decide)));done|fail):p:=h
theorem S0 {p:Prop} (h:p:=by first|(repeat'(first|rfl|(with_reducible first|apply G5|apply rV|apply rW|apply xo)));done|fail):p:=h
theorem Uf {p:Prop} (h:p:=by first|(repeat'(first|rfl|(with_reducible first|apply KG|apply rV|apply uF|apply rW)));done|fail):p:=h
theorem Ug {p:Prop} (h:p:=by first|(repeat'(first|(with_reducible first|apply pI|apply rX|apply uJ|apply GN)));done|fail):p:=h
theorem Uh {p:Prop} (h:p:=by first|(repeat'(first|rfl|(with_reducible first|apply UH)|(with_reducible apply Ay;decide)));done|fail):p:=h
theorem xM {p:Prop} (h:p:=by first|(repeat'(first|rfl|(with_reducible first|apply rV|apply rW|apply xo)));done|fail):p:=h
theorem Ui {p:Prop} (h:p:=by first|apply uw (d:=4) (id:=4) (e:=9) (sz:=1);exact J8|fail):p:=h
theorem Uj {p:Prop} (h:p:=by first|(repeat'(first|rfl|(with_reducible first|apply uF)|(with_reducible apply Ay;decide)));done|fail):p:=h
theorem Uk {p:Prop} (h:p:=by first|(repeat'(first|rfl|(with_reducible first|apply q_|apply BA)));done|fail):p:=h
theorem J7 {p:Prop} (h:p:=by first|(repeat'(first|rfl|(with_reducible first|apply N0|apply KJ)));done|fail):p:=h
theorem S1 {p:Prop} (h:p:=by first|(repeat'(first|(with_reducible first|apply rV|apply rW)));done|fail):p:=h
theorem dI {p:Prop} (h:p:=by first|simp only[push_cast,seval, -List.reduceReplicate];(try rfl);done|fail):p:=h
theorem Ev {p:Prop} (h:p:=by first|(repeat'(first|(with_reducible first|apply pI)));done|fail):p:=h
theorem tB {p:Prop} (h:p:=by first|(repeat'(first|(with_reducible first|apply FG)));done|fail):p:=h
theorem Ul {p:Prop} (h:p:=by first|(first|apply TA;exact cY|fail)|fail):p:=h
theorem S3 {p:Prop} (h:p:=by first|(first|apply Tz;exact cY|fail)|fail):p:=h
theorem lz {p:Prop} (h:p:=by first|simp only[vX,Ju,RV.get,push_cast,seval];rfl|fail):p:=h
theorem zS {p:Prop} (h:p:=by first|simp only[push_cast,seval, -List.reduceReplicate];rfl|fail):p:=h
theorem ai {p:Prop} (h:p:=by first|simp only[push_cast,seval];(try rfl);done|fail):p:=h
theorem S4 {p:Prop} (h:p:=by first|(first|simp only[push_cast,seval];done)|fail):p:=h
theorem jA {p:Prop} (h:p:=by first|(first|exact aj|fail)|fail):p:=h
theorem S5 {p:Prop} (h:p:=by first|intro a;simp only[push_cast,seval];rfl|fail):p:=h
theorem B_ {p:Prop} (h:p:=by first|(repeat'(first|exact j9));done|fail):p:=h
theorem S6 {p:Prop} (h:p:=by first|intro a;(repeat'(first|rfl));done|fail):p:=h
theorem J8 {p:Prop} (h:p:=by first|simp only[push_cast,seval];done|fail):p:=h
theorem bi {p:Prop} (h:p:=by first|simp only[push_cast,seval];rfl|fail):p:=h
theorem cY {p:Prop} (h:p:=by first|(repeat'(first|rfl));done|fail):p:=h
theorem aD {p:Prop} (h:p:=by first|(first|(dsimp only;done))|fail):p:=h
theorem aj {p:Prop} (h:p:=by first|simp only[push_cast,seval];rfl|fail):p:=h
theorem pd {p:Prop} (h:p:=by first|(repeat'(fail));done|fail):p:=h
theorem nJ {p:Prop} (h:p:=by first|(repeat'(first|rfl));done|fail):p:=h
theorem OT {p:Prop} (h:p:=by first|(first|exact trivial)|fail):p:=h
theorem A1 {p:Prop} (h:p:=by first|exact bt.refl _|fail):p:=h
theorem a6 {p:Prop} (h:p:=by first|intro _;rfl|fail):p:=h
end Go.Proofs.YtgmnipfafmphaaaGreatDoor
