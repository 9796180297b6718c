/-
  Texts of mine, one behind the other (SYShelf, SYLibT, SYLibS, SYZp, SYG1, SYLibO, SYLibP, SYLibQ, SYLibH, SYShelfI, SYLibI, SYShelfV, SYLibV, SYLibC, SYShelfC, SYLibD, SYCodeN, SYNC, SYNX, SYShelfU, SYLibA).
-/
import Derived.Test.YtgmnipfafmphaaaGreatDoorSYEngA
import Derived.Ground.NamesProg
import Derived.Shelf.Strings.SlTrimAscii
import Derived.Shelf.Small.Strs
import Derived.Shelf.Strings.IndexAnyAll
import Derived.Test.YtgmnipfafmphaaaGreatDoorProg
import Derived.Test.YtgmnipfafmphaaaGreatDoorSYEngY
import Derived.Test.YtgmnipfafmphaaaGreatDoorSYEngZz
import Derived.Test.YtgmnipfafmphaaaGreatDoorSYEngX
import Derived.Lib.SlBytesConst
import Derived.ArgAppend
import Derived.Shelf.Strconv.Itoa3
import Derived.Shelf.Small.Wraps
import Derived.Shelf.Strconv.Atoi
import Derived.Shelf.SlicesE.Clone
import Derived.Shelf.SlGeneric
import Derived.Ground.SlgnProg
import Derived.Test.YtgmnipfafmphaaaGreatDoorSYEngW
import Derived.Test.YtgmnipfafmphaaaGreatDoorSYEngWk
import Derived.Ground.Names7Prog
import Derived.Shelf.Spec.DecodeRune
import Derived.Shelf.Unicode.DecodeLastEight
import Derived.Lib.RuneCountTail
namespace Go.Proofs
open Go.Proofs.YtgmnipfafmphaaaGreatDoor
open Go.Shelf
def Tryz.lays160_ren:Go.Shelf.Ren:=⟨fun|160=>81|232=>116|231=>115|227=>117|234=>119|233=>118|236=>121|235=>120|228=>151|271=>154|151=>153|197=>152|120=>175|152=>174|260=>173|137=>89|119=>184|224=>186|225=>168|217=>132|266=>161|n=>n,fun|9=>9|4=>4|3=>3|5=>5|117=>182|116=>181|0=>0|124=>185|21=>21|105=>207|46=>218|119=>245|139=>248|138=>247|n=>n,fun|3=>4|4=>5|n=>n⟩
theorem Tryz.lays160:Go.Proofs.Lays.n160 Tryz.prog Tryz.lays160_ren:={
 mixed:=oK
 f119:=Tryz.func184.trans (TX some oK)
 f120:=Tryz.func175.trans (TX some oK)
 f137:=Tryz.func89.trans (TX some oK)
 f151:=Tryz.func153.trans (TX some oK)
 f152:=Tryz.func174.trans (TX some oK)
 f160:=Tryz.func81.trans (TX some oK)
 f197:=Tryz.func152.trans (TX some oK)
 f217:=Tryz.func132.trans (TX some oK)
 f224:=Tryz.func186.trans (TX some oK)
 f225:=Tryz.func168.trans (TX some oK)
 f227:=Tryz.func117.trans (TX some oK)
 f228:=Tryz.func151.trans (TX some oK)
 f231:=Tryz.func115.trans (TX some oK)
 f232:=Tryz.func116.trans (TX some oK)
 f233:=Tryz.func118.trans (TX some oK)
 f234:=Tryz.func119.trans (TX some oK)
 f235:=Tryz.func120.trans (TX some oK)
 f236:=Tryz.func121.trans (TX some oK)
 f260:=Tryz.func173.trans (TX some oK)
 f266:=Tryz.func161.trans (TX some oK)
 f271:=Tryz.func154.trans (TX some oK)
 t0:=Tryz.underlying0
 a0:=Tryz.isAgg0
 z0:=Tryz.sizeOf0
 v0:=Tryz.zeroValue0
 t3:=Tryz.underlying3
 a3:=Tryz.isAgg3
 z3:=Tryz.sizeOf3
 v3:=Tryz.zeroValue3
 t4:=Tryz.underlying4
 a4:=Tryz.isAgg4
 z4:=Tryz.sizeOf4
 v4:=Tryz.zeroValue4
 t5:=Tryz.underlying5
 a5:=Tryz.isAgg5
 z5:=Tryz.sizeOf5
 v5:=Tryz.zeroValue5
 t9:=Tryz.underlying9
 a9:=Tryz.isAgg9
 z9:=Tryz.sizeOf9
 v9:=Tryz.zeroValue9
 t21:=Tryz.underlying21
 a21:=Tryz.isAgg21
 z21:=Tryz.sizeOf21
 v21:=Tryz.zeroValue21
 t46:=Tryz.underlying218
 a46:=Tryz.isAgg218
 z46:=Tryz.sizeOf218
 v46:=Tryz.zeroValue218
 t105:=Tryz.underlying207
 a105:=Tryz.isAgg207
 z105:=Tryz.sizeOf207
 v105:=Tryz.zeroValue207
 t116:=Tryz.underlying181
 a116:=Tryz.isAgg181
 z116:=Tryz.sizeOf181
 t117:=Tryz.underlying182
 a117:=Tryz.isAgg182
 z117:=Tryz.sizeOf182
 v117:=Tryz.zeroValue182
 t119:=Tryz.underlying245
 a119:=Tryz.isAgg245
 z119:=Tryz.sizeOf245
 t124:=Tryz.underlying185
 a124:=Tryz.isAgg185
 z124:=Tryz.sizeOf185
 v124:=Tryz.zeroValue185
 t138:=Tryz.underlying247
 a138:=Tryz.isAgg247
 z138:=Tryz.sizeOf247
 v138:=Tryz.zeroValue247
 t139:=Tryz.underlying248
 a139:=Tryz.isAgg248
 z139:=Tryz.sizeOf248
 v139:=Tryz.zeroValue248
 g3:=oK
 g4:=by kernel_rfl}
def Tryz.lays137_ren:Go.Shelf.Ren:=⟨fun|137=>89|217=>132|266=>161|n=>n,fun|9=>9|5=>5|3=>3|n=>n,fun|n=>n⟩
theorem Tryz.lays137:Go.Proofs.Lays.n137 Tryz.prog Tryz.lays137_ren:={
 mixed:=oK
 f137:=Tryz.func89.trans (TX some oK)
 f217:=Tryz.func132.trans (TX some oK)
 f266:=Tryz.func161.trans (TX some oK)
 t3:=Tryz.underlying3
 a3:=Tryz.isAgg3
 z3:=Tryz.sizeOf3
 v3:=Tryz.zeroValue3
 t5:=Tryz.underlying5
 a5:=Tryz.isAgg5
 z5:=Tryz.sizeOf5
 v5:=Tryz.zeroValue5
 t9:=Tryz.underlying9
 a9:=Tryz.isAgg9
 z9:=Tryz.sizeOf9
 v9:=Tryz.zeroValue9}
def Tryz.lays150_ren:Go.Shelf.Ren:=⟨fun|150=>130|153=>160|152=>174|226=>181|227=>117|228=>151|137=>89|119=>184|224=>186|225=>168|217=>132|266=>161|n=>n,fun|9=>9|4=>4|3=>3|5=>5|21=>21|117=>182|116=>181|0=>0|46=>218|124=>185|n=>n,fun|n=>n⟩
theorem Tryz.lays150:Go.Proofs.Lays.n150 Tryz.prog Tryz.lays150_ren:={
 mixed:=oK
 f119:=Tryz.func184.trans (TX some oK)
 f137:=Tryz.func89.trans (TX some oK)
 f150:=Tryz.func130.trans (TX some oK)
 f152:=Tryz.func174.trans (TX some oK)
 f153:=Tryz.func160.trans (TX some oK)
 f217:=Tryz.func132.trans (TX some oK)
 f224:=Tryz.func186.trans (TX some oK)
 f225:=Tryz.func168.trans (TX some oK)
 f226:=Tryz.func181.trans (TX some oK)
 f227:=Tryz.func117.trans (TX some oK)
 f228:=Tryz.func151.trans (TX some oK)
 f266:=Tryz.func161.trans (TX some oK)
 t0:=Tryz.underlying0
 a0:=Tryz.isAgg0
 z0:=Tryz.sizeOf0
 v0:=Tryz.zeroValue0
 t3:=Tryz.underlying3
 a3:=Tryz.isAgg3
 z3:=Tryz.sizeOf3
 v3:=Tryz.zeroValue3
 t4:=Tryz.underlying4
 a4:=Tryz.isAgg4
 z4:=Tryz.sizeOf4
 v4:=Tryz.zeroValue4
 t5:=Tryz.underlying5
 a5:=Tryz.isAgg5
 z5:=Tryz.sizeOf5
 v5:=Tryz.zeroValue5
 t9:=Tryz.underlying9
 a9:=Tryz.isAgg9
 z9:=Tryz.sizeOf9
 v9:=Tryz.zeroValue9
 t21:=Tryz.underlying21
 a21:=Tryz.isAgg21
 z21:=Tryz.sizeOf21
 v21:=Tryz.zeroValue21
 t46:=Tryz.underlying218
 a46:=Tryz.isAgg218
 z46:=Tryz.sizeOf218
 v46:=Tryz.zeroValue218
 t116:=Tryz.underlying181
 a116:=Tryz.isAgg181
 z116:=Tryz.sizeOf181
 t117:=Tryz.underlying182
 a117:=Tryz.isAgg182
 z117:=Tryz.sizeOf182
 v117:=Tryz.zeroValue182
 t124:=Tryz.underlying185
 a124:=Tryz.isAgg185
 z124:=Tryz.sizeOf185
 v124:=Tryz.zeroValue185}
end Go.Proofs
namespace Go.Proofs.YtgmnipfafmphaaaGreatDoor
set_option linter.unusedSimpArgs false
set_option linter.unusedVariables false
open Go.RowKit Go.Shelf
def fx (s cs:List UInt8):Option (List UInt8):=if s.length<=9223372036854775807/\cs.length<4294967281/\cs.all (fun b=>decide (b.toNat<128))=true then some (Lib.trimS s cs) else none
theorem pf (s cs:List UInt8):∀ r,fx s cs=some r->ac Tryz.prog 81 [.str s,.str cs] (.str r):=by
 intro r D
 unfold fx at D
 split at D
 ·rename_i h
  obtain⟨h1,h2,E⟩:=h
  cases D
  refine⟨by kernel_rfl,fun w M vs hM hv _=> ?_⟩
  simp only[aC,aW] at hv
  obtain⟨u,R,rfl,rfl,q,g,rfl,rfl,rfl⟩:=hv
  have f:=Any.strings_Trim_laid Tryz.lays160 oK ⟨s.toArray⟩ ⟨cs.toArray⟩ w (by simpa[ByteArray.size] using h1) (by simpa[ByteArray.size] using h2) (ascii_of_all (by simpa using E))
  refine Calls.mono f ?_
  rintro e w' ⟨rfl,hB⟩
  exact⟨_,rfl,by simp[aW],hB⟩
 ·cases D
end Go.Proofs.YtgmnipfafmphaaaGreatDoor
namespace Go.Proofs.YtgmnipfafmphaaaGreatDoor
set_option linter.unusedSimpArgs false
set_option linter.unusedVariables false
open Go.RowKit Go.Shelf
def nD (s:List UInt8) (c:UInt8):Option Int:=some (Lib.indexByte s c)
theorem rB (s:List UInt8) (c:UInt8):∀ r,nD s c=some r->ac Tryz.prog 89 [.str s,.int .u8 c.toNat] (.int .i64 r):=by
 intro r D
 cases D
 refine⟨by kernel_rfl,fun w M vs hM hv _=> ?_⟩
 simp only[aC,aW] at hv
 obtain⟨u,R,rfl,rfl,q,g,rfl,rfl,rfl⟩:=hv
 have f:=Any.strings_IndexByte Tryz.lays137 ⟨s.toArray⟩ (c.toNat:Int) w
 refine Calls.mono f ?_
 rintro e w' ⟨rfl,rfl⟩
 refine⟨_,rfl, ?_,Below.refl _ _⟩
 simp only[aW]
 have:((c.toNat:Int)).toNat.toUInt8=c:=by simp
 rw[this]
def gy (s cs:List UInt8):Option Bool:=if s.length<4294967281/\cs.length<4294967281/\s.all (fun b=>decide (b.toNat<128))=true/\cs.all (fun b=>decide (b.toNat<128))=true then some (Lib.containsAny s cs) else none
theorem pz (s cs:List UInt8):∀ r,gy s cs=some r->ac Tryz.prog 130 [.str s,.str cs] (.bool r):=by
 intro r D
 unfold gy at D
 split at D
 ·rename_i h
  obtain⟨h1,h2,E,h4⟩:=h
  cases D
  refine⟨by kernel_rfl,fun w M vs hM hv _=> ?_⟩
  simp only[aC,aW] at hv
  obtain⟨u,R,rfl,rfl,q,g,rfl,rfl,rfl⟩:=hv
  have a:∀ (l:List UInt8),l.all (fun b=>decide (b.toNat<128))=true->∀ (j:Nat) b,l[j]?=some b->b.toNat<128:=fun l hl j b hb=>by
   have:=Ti.1 hl b (SW hb)
   simpa using this
  have f:=Any.strings_ContainsAny_laid Tryz.lays150 oK ⟨s.toArray⟩ ⟨cs.toArray⟩ w (by simpa[ByteArray.size] using h1) (by simpa[ByteArray.size] using h2) (a s E) (a cs h4)
  refine Calls.mono f ?_
  rintro e w' ⟨rfl,hB⟩
  exact⟨_,rfl,by simp[aW],hB⟩
 ·cases D
end Go.Proofs.YtgmnipfafmphaaaGreatDoor
namespace Go.Proofs.YtgmnipfafmphaaaGreatDoor
abbrev SO.v (d n:Nat):SO:= .r d (.mv (.t n))
abbrev SX.i (n:Int):SX:= .c (.d (.int .i64 n))
abbrev SX.b (x:Bool):SX:= .c (.d (.bool x))
abbrev SO.l (d n:Nat):SO:= .o d (.ld1 (.t n))
abbrev SO.f (d k n:Nat):SO:= .r d (.fld k (.t n))
abbrev SO.n (d n:Nat):SO:= .r d (.nilc (.t n))
abbrev SO.e (d n k:Nat):SO:= .r d (.ext (.t n) k)
abbrev SO.h (d n:Nat):SO:= .r d (.len (.t n))
abbrev SO.k (d:Nat) (o:BinOp) (a b:Nat):SO:= .r d (.bin o (.t a) (.t b))
abbrev SO.j (d:Nat) (o:BinOp) (a:Nat) (n:Int):SO:= .r d (.bin o (.t a) (.i n))
abbrev SO.y (d k a b:Nat):SO:= .r d (.idx k (.t a) (.t b))
attribute [push_cast] SX.i SX.b
abbrev SO.s (k a b:Nat):SO:= .w 0 (.st k (.t a) (.t b))
abbrev SO.a (d k n:Nat):SO:= .o d (.ldA k (.t n))
abbrev SC.sq (l:List SO) (k:SC):SC:= .seq (.reg l) k
theorem oV {p:Prop} (h:p:=by first|simp only[push_cast,seval];rfl|fail):p:=h
end Go.Proofs.YtgmnipfafmphaaaGreatDoor
namespace Go.Proofs.YtgmnipfafmphaaaGreatDoor
open Go.RowKit
set_option linter.unusedSimpArgs false
set_option linter.unusedVariables false
noncomputable section
set_option maxRecDepth 100000
set_option maxHeartbeats 40000000
structure ab where
 fElement:UInt8
 fPart:UInt8
 fRepeat:UInt8
 fEscape:UInt8
 fEnd:UInt8
 deriving DecidableEq
variable {H d0:SV} {v0:List (List (List UInt8))} {v2 v3 v4:UInt8}
def aq (x:ab):List DV:=[.int .u8 (x.fElement).toNat,.int .u8 (x.fPart).toNat,.int .u8 (x.fRepeat).toNat,.int .u8 (x.fEscape).toNat,.int .u8 (x.fEnd).toNat]
attribute [push_cast] aq
theorem mV {d0 H d2 q a:DV} {v0 b:UInt8} (h0:d0= .int .u8 (v0).toNat) (h1:H= .int .u8 (b).toNat) (h2:d2= .int .u8 (v2).toNat) (E:q= .int .u8 (v3).toNat) (h4:a= .int .u8 (v4).toNat):[d0,H,d2,q,a]=aq ⟨v0,b,v2,v3,v4⟩:=by unfold aq;simp only[h0,h1,h2,E,h4,Td,S8,S6,Tg]
theorem cL {d2 q a:SV} {v0 b:UInt8} (h0:fV d0 (.d (.int .u8 (v0).toNat))) (h1:fV H (.d (.int .u8 (b).toNat))) (h2:fV d2 (.d (.int .u8 (v2).toNat))) (E:fV q (.d (.int .u8 (v3).toNat))) (h4:fV a (.d (.int .u8 (v4).toNat))):ag [d0,H,d2,q,a] (dR (aq ⟨v0,b,v2,v3,v4⟩)):=by have h:=(ag.append (ag.consS h0 ag.nil) (ag.append (ag.consS h1 ag.nil) (ag.append (ag.consS h2 ag.nil) (ag.append (ag.consS E ag.nil) (ag.consS h4 ag.nil)))));simpa only[aq,dR,TY,Tc,Ug,Td,S8,S6,Tg] using h
structure aj where
 fRepeats:List (List (List UInt8))
 deriving DecidableEq
variable {b:List aj}
def az (x:aj):List DV:=[.slice (List.map (fA cX) x.fRepeats)]
attribute [push_cast] az
theorem rH {d0:DV} (h0:d0= .slice (List.map (fA cX) v0)):[d0]=az ⟨v0⟩:=by unfold az;simp only[h0,Td,S8,S6,Tg]
theorem y2 (h0:fV d0 (.d (.slice (List.map (fA cX) v0)))):ag [d0] (dR (az ⟨v0⟩)):=by have h:=(ag.consS h0 ag.nil);simpa only[az,dR,TY,Tc,Ug,Td,S8,S6,Tg] using h
structure aa where
 fTag:List UInt8
 fElements:List aj
 deriving DecidableEq
def ae (x:aa):List DV:=[.str x.fTag,.slice (List.map az x.fElements)]
attribute [push_cast] ae
theorem y3 {d0 H:DV} {v0:List UInt8} (h0:d0= .str v0) (h1:H= .slice (List.map az b)):[d0,H]=ae ⟨v0,b⟩:=by unfold ae;simp only[h0,h1,Td,S8,S6,Tg]
theorem rI {v0:List UInt8} (h0:fV d0 (.d (.str v0))) (h1:fV H (.d (.slice (List.map az b)))):ag [d0,H] (dR (ae ⟨v0,b⟩)):=by have h:=(ag.append (ag.consS h0 ag.nil) (ag.consS h1 ag.nil));simpa only[ae,dR,TY,Tc,Ug,Td,S8,S6,Tg] using h
theorem y4 {v0:List UInt8} (h0:d0= .d (.str v0)) (h1:H= .d (.slice (List.map az b))):[d0,H]=dR (ae ⟨v0,b⟩):=by simp only[ae,dR,TY,Tc,Ug,Td,S8,S6,Tg,h0,h1]
def p2:SC:=(.sq [.r 2 (.mv (.b false))] (.sq [.v 3 0,.c 4 (.f 81) [.t 3,.c (.d (.str [65,66,67,68,69,70,71,72,73,74,75,76,77,78,79,80,81,82,83,84,85,86,87,88,89,90,48,49,50,51,52,53,54,55,56,57]))],.r 5 (.bin .eql (.t 4) (.c (.d (.str [])))),.v 2 5] .ret))
theorem wz:fits Tryz.prog 90 Tryz.f90 p2 [.t 2] 1=true:=oK
def lJ:SC:=(.sq [.k 11 .lss 10 9] (.seq (.cond (.t 11) .skip (.exit 0)) (.seq (.block 1 (.sq [.v 12 10,.v 7 12] (.seq (.reg (.v 13 0:: .v 14 7:: .r 15 (.sidx (.t 13) (.t 14)):: .v 16 1:: .k 17 .lss 15 16:: .v 18 17::bK [19,20,21,22,23] 18 false (.v 19 0:: .v 20 7:: .r 21 (.sidx (.t 19) (.t 20)):: .v 22 2:: .k 23 .gtr 21 22::[]) (.r 24 (.pick (.t 18) (.b true) (.t 23))::[]))) (.cond (.t 24) (.sq [.r 6 (.mv (.b false))] .ret) .skip)))) (.reg [.j 25 .add 10 1,.v 10 25]))))
def o5:SC:= .block 0 (.loop lJ)
def sQ:SC:=(.sq [.r 6 (.mv (.b false))] (.seq (.sq [.v 8 0,.r 9 (.lenT (.t 8)),.r 10 (.mv (.i 0))] o5) (.sq [.r 6 (.mv (.b true))] .ret)))
theorem y5:fits Tryz.prog 129 Tryz.f129 sQ [.t 6] 3=true:=oK
def fM:SC:=(.sq [.k 9 .lss 8 7] (.seq (.cond (.t 9) .skip (.exit 0)) (.seq (.block 1 (.sq [.v 10 8,.v 5 10] (.sq [.v 11 1,.v 12 0,.v 13 5,.y 14 1 12 13,.l 15 14,.k 16 .eql 11 15] (.cond (.t 16) (.sq [.v 17 5,.v 4 17] .ret) .skip)))) (.reg [.j 18 .add 8 1,.v 8 18]))))
def iD:SC:= .block 0 (.loop fM)
def jA:SC:=(.sq [.r 4 (.mv (.i 0))] (.seq (.sq [.v 6 0,.h 7 6,.r 8 (.mv (.i 0))] iD) (.sq [.r 4 (.mv (.i (-1)))] .ret)))
theorem ol:fits Tryz.prog 131 Tryz.f131 jA [.t 4] 2=true:=oK
def eT:SC:=(.seq (.sq [.v 5 3,.v 6 0,.r 7 (.lenT (.t 6)),.k 8 .lss 5 7] (.cond (.t 8) .skip (.exit 0))) (.seq (.block 1 (.seq (.reg (.v 11 0:: .v 12 3:: .r 13 (.sidx (.t 11) (.t 12)):: .r 14 (.bin .geq (.t 13) (.c (.d (.int .u8 65)))):: .v 15 14::bK [16,17,18,19] 15 true (.v 16 0:: .v 17 3:: .r 18 (.sidx (.t 16) (.t 17)):: .r 19 (.bin .leq (.t 18) (.c (.d (.int .u8 90))))::[]) (.r 20 (.pick (.t 15) (.t 19) (.b false)):: .v 4 20::[]))) (.seq (.reg (.v 21 4:: .r 22 (.not (.t 21)):: .v 23 22::bK [24,25,26,27,28,29,30,31,32,33,34,35,36,37] 23 true (.v 24 3:: .j 25 .eql 24 0:: .v 26 25::bK [27,28,29,30] 26 false (.v 27 0:: .v 28 3:: .r 29 (.sidx (.t 27) (.t 28)):: .r 30 (.bin .lss (.t 29) (.c (.d (.int .u8 48))))::[]) (.r 31 (.pick (.t 26) (.b true) (.t 30)):: .v 32 31::bK [33,34,35,36] 32 false (.v 33 0:: .v 34 3:: .r 35 (.sidx (.t 33) (.t 34)):: .r 36 (.bin .gtr (.t 35) (.c (.d (.int .u8 57))))::[]) (.r 37 (.pick (.t 32) (.b true) (.t 36))::[]))) (.r 38 (.pick (.t 23) (.t 37) (.b false))::[]))) (.cond (.t 38) (.sq [.r 2 (.mv (.b false))] .ret) .skip)))) (.reg [.v 9 3,.j 10 .add 9 1,.v 3 10])))
def mb:SC:= .block 0 (.loop eT)
def eU:SC:=(.seq (.sq [.v 7 3,.v 8 0,.r 9 (.lenT (.t 8)),.k 10 .lss 7 9] (.cond (.t 10) .skip (.exit 0))) (.seq (.block 1 (.seq (.reg (.v 13 0:: .v 14 3:: .r 15 (.sidx (.t 13) (.t 14)):: .r 16 (.bin .lss (.t 15) (.c (.d (.int .u8 32)))):: .v 17 16::bK [18,19,20,21] 17 false (.v 18 0:: .v 19 3:: .r 20 (.sidx (.t 18) (.t 19)):: .r 21 (.bin .gtr (.t 20) (.c (.d (.int .u8 126))))::[]) (.r 22 (.pick (.t 17) (.b true) (.t 21))::[]))) (.cond (.t 22) (.sq [.r 2 (.mv (.i 3))] .ret) .skip))) (.reg [.v 11 3,.j 12 .add 11 1,.v 3 12])))
def mc:SC:= .block 0 (.loop eU)
def f3:(∀ (B:List UInt8),{m:Option (Bool)//∀ r,m=some r->ac Tryz.prog 90 [.str B] (.bool r)})×(∀ (B:List UInt8) (x1:UInt8) (x2:UInt8),{m:Option (Bool)//∀ r,m=some r->ac Tryz.prog 129 [.str B,.int .u8 (x1).toNat,.int .u8 (x2).toNat] (.bool r)})×(∀ (B:List UInt8) (x1:UInt8),{m:Option (Int)//∀ r,m=some r->ac Tryz.prog 131 [.slice (List.map cP B),.int .u8 (x1).toNat] (.int .i64 r)}):=by
 refine⟨?g0, ?g1, ?g2⟩
 case' g0=>(intro B;apply Subtype.mk;intro r Z;apply av Tryz.func90 wz;unfold p2)
 case' g1=>(intro B x1 x2;apply Subtype.mk;intro r Z;apply av Tryz.func129 y5;unfold sQ)
 case' g2=>(intro B x1;apply Subtype.mk;intro r Z;apply av Tryz.func131 ol;unfold jA)
 all_goals(repeat'(first|with_reducible refine cC ?_|with_reducible refine cv ?_|with_reducible refine bn ?_|with_reducible refine b5 ?_|with_reducible refine d9 ?_|with_reducible refine cN ?_|with_reducible refine cw ?_|with_reducible refine cE ?_|with_reducible refine cO ?_|with_reducible refine dF ?_|with_reducible refine bD ?_|with_reducible refine cR ?_|with_reducible refine dT ?_|((with_reducible apply fp Z);(iterate 2 (simp only[push_cast,seval];rfl));(intro _;rfl);intro e Z)|((with_reducible apply rj Z);(iterate 2 (simp only[push_cast,seval];rfl));intro e Z)|((with_reducible apply iC);(simp only[push_cast,seval];rfl);(first|exact trivial))|((with_reducible apply nx Z);(simp only[push_cast,seval];rfl);rfl;intro v Z;rotate_left;intro v g Z)|((with_reducible apply rZ Z);(simp only[push_cast,seval];rfl);rfl;intro v Z;rotate_left;intro v g Z)|((with_reducible apply j0 Z);(simp only[push_cast,seval];rfl);(first|apply pf _ _);(any_goals((repeat'(first|rfl));done));intro x Z)|((with_reducible apply bv Z);(simp only[push_cast,seval];rfl);intro Z;rotate_left;intro Z)|((with_reducible apply eS Z);(focus(simp only[dE,im,RV.get,push_cast,seval];rfl));(focus((repeat'(first|rfl));done)))|((with_reducible apply fL Z);(simp only[push_cast,seval];rfl))|((with_reducible apply cp Z);intro r Z)|((with_reducible apply eu Z);intro r Z)|((apply aA (b:=0) (X:=o5) (x:=lJ) rfl (fun(c:SV×SV×SV×SV) (s:Int)=>st [(0,c.1),(1,c.2.1),(2,c.2.2.1),(9,c.2.2.2),(10,.d (.int .i64 s))] []) (c:=(_,_,_,_)) (s0:=_) Z);(focus(first|(dsimp only;done)));(with_reducible refine cS.mk ?_ ?_))|((apply aA (b:=0) (X:=iD) (x:=fM) rfl (fun(c:SV×SV×SV) (s:Int)=>st [(0,c.1),(1,c.2.1),(7,c.2.2),(8,.d (.int .i64 s))] []) (c:=(_,_,_)) (s0:=_) Z);(focus(first|(dsimp only;done)));(with_reducible refine cS.mk ?_ ?_))|((apply aA (b:=0) (X:=mb) (x:=eT) rfl (fun(c:SV) (s:Int)=>st [(0,c),(3,.d (.int .i64 s))] []) (c:=_) (s0:=_) Z);(focus(first|(dsimp only;done)));(with_reducible refine cS.mk ?_ ?_))|((apply aA (b:=0) (X:=mc) (x:=eU) rfl (fun(c:SV) (s:Int)=>st [(0,c),(3,.d (.int .i64 s))] []) (c:=_) (s0:=_) Z);(focus(first|(dsimp only;done)));(with_reducible refine cS.mk ?_ ?_))|((apply cr (s':=_) Z);(focus(first|(dsimp only;done))))|((apply ew (s':=_) Z);(focus(first|(dsimp only;done))))|(((with_reducible apply iv Z);intro r Z))|(((with_reducible apply fe.of);(focus(first|(dsimp only;done)));(focus((intro _;repeat'(first|with_reducible exact ea|with_reducible refine b_ ?_))));(intro s o Z;first|unfold lJ|unfold fM|unfold eT|unfold eU);rotate_left;intro s Z))|(((apply bH;(repeat'(first|with_reducible exact aR|with_reducible exact aS|with_reducible apply aK|((with_reducible apply aV);(focus(first|(simp only[push_cast,seval];rfl)));(focus((repeat'(first|rfl));done)))));done)))))
def iE (B:List UInt8):Option (Bool):=(f3.1 B).1
theorem om (B:List UInt8):∀ r,iE B=some r->ac Tryz.prog 90 [.str B] (.bool r):=(f3.1 B).2
def j1 (B:List UInt8) (x1 x2:UInt8):Option (Bool):=(f3.2.1 B x1 x2).1
theorem p3 (B:List UInt8) (x1 x2:UInt8):∀ r,j1 B x1 x2=some r->ac Tryz.prog 129 [.str B,.int .u8 (x1).toNat,.int .u8 (x2).toNat] (.bool r):=(f3.2.1 B x1 x2).2
def gW (B:List UInt8) (x1:UInt8):Option (Int):=(f3.2.2 B x1).1
theorem nJ (B:List UInt8) (x1:UInt8):∀ r,gW B x1=some r->ac Tryz.prog 131 [.slice (List.map cP B),.int .u8 (x1).toNat] (.int .i64 r):=(f3.2.2 B x1).2
def oo:SC:=(.sq [.r 2 (.mv (.b false))] (.sq [.v 4 0,.r 5 (.cvis (.t 4)),.v 3 5] (.seq (.reg (.v 6 0:: .r 7 (.bin .geq (.t 6) (.c (.d (.int .u8 33)))):: .v 8 7::bK [9,10] 8 true (.v 9 0:: .r 10 (.bin .leq (.t 9) (.c (.d (.int .u8 126))))::[]) (.r 11 (.pick (.t 8) (.t 10) (.b false)):: .v 12 11::bK [13,14,15] 12 true (.v 13 3:: .c 14 (.f 90) [.t 13]:: .r 15 (.not (.t 14))::[]) (.r 16 (.pick (.t 12) (.t 15) (.b false)):: .v 17 16::bK [18,19,20] 17 true (.v 18 3:: .c 19 (.f 129) [.t 18,.c (.d (.int .u8 97)),.c (.d (.int .u8 122))]:: .r 20 (.not (.t 19))::[]) (.r 21 (.pick (.t 17) (.t 20) (.b false)):: .v 22 21::bK [23,24,25] 22 true (.v 23 3:: .c 24 (.f 130) [.t 23,.c (.d (.str [46,45,43,95]))]:: .r 25 (.not (.t 24))::[]) (.r 26 (.pick (.t 22) (.t 25) (.b false)):: .v 2 26::[])))))) .ret)))
theorem ul:fits Tryz.prog 87 Tryz.f87 oo [.t 2] 1=true:=oK
def iF:SC:=(.sq [.r 4 (.mv (.b false))] (.sq [.v 5 0,.v 6 1,.c 7 (.f 131) [.t 5,.t 6],.j 8 .geq 7 0,.v 4 8] .ret))
theorem m_:fits Tryz.prog 88 Tryz.f88 iF [.t 4] 2=true:=oK
def wA:SC:=(.sq [.r 2 (.mv (.b false))] (.seq (.reg (.v 3 0:: .r 4 (.lenT (.t 3)):: .j 5 .geq 4 2:: .v 6 5::bK [7,8,9] 6 true (.v 7 0:: .r 8 (.lenT (.t 7)):: .j 9 .leq 8 6::[]) (.r 10 (.pick (.t 6) (.t 9) (.b false)):: .v 11 10::bK [12,13,14,15] 11 true (.v 12 0:: .r 13 (.sidx (.t 12) (.i 0)):: .c 14 (.f 89) [.c (.d (.str [65,66,67,68,69,70,71,72,73,74,75,76,77,78,79,80,81,82,83,84,85,86,87,88,89,90])),.t 13]:: .j 15 .geq 14 0::[]) (.r 16 (.pick (.t 11) (.t 15) (.b false)):: .v 17 16::bK [18,19] 17 true (.v 18 0:: .c 19 (.f 90) [.t 18]::[]) (.r 20 (.pick (.t 17) (.t 19) (.b false)):: .v 2 20::[]))))) .ret))
theorem Cf:fits Tryz.prog 47 Tryz.f47 wA [.t 2] 1=true:=oK
def uF:SC:=(.sq [.r 2 (.mv (.b false))] (.seq (.reg (.v 3 0:: .r 4 (.lenT (.t 3)):: .j 5 .leq 4 1000:: .v 6 5::bK [7,8] 6 true (.v 7 0:: .c 8 (.f 129) [.t 7,.c (.d (.int .u8 32)),.c (.d (.int .u8 126))]::[]) (.r 9 (.pick (.t 6) (.t 8) (.b false)):: .v 2 9::[]))) .ret))
theorem Bd:fits Tryz.prog 133 Tryz.f133 uF [.t 2] 1=true:=oK
def ex:SC:=(.seq (.sq [.v 56 5,.v 57 4,.k 58 .lss 56 57] (.cond (.t 58) .skip (.exit 2))) (.seq (.block 3 (.seq (.regD [.v 61 3,.v 62 4,.y 63 1 61 62,.r 64 (.ld1 (.t 63)),.v 65 3,.v 66 5,.y 67 1 65 66,.r 68 (.ld1 (.t 67)),.k 69 .eql 64 68]) (.cond (.t 69) (.sq [.r 2 (.mv (.i 7))] .ret) .skip))) (.reg [.v 59 5,.j 60 .add 59 1,.v 5 60])))
def gK:SC:= .block 2 (.loop ex)
def ey:SC:=(.seq (.sq [.v 50 4,.v 51 3,.h 52 51,.k 53 .lss 50 52] (.cond (.t 53) .skip (.exit 0))) (.seq (.block 1 (.sq [.r 5 (.mv (.i 0))] gK)) (.reg [.v 54 4,.j 55 .add 54 1,.v 4 55])))
def lK:SC:= .block 0 (.loop ey)
def dX:SC:=(.seq (.sq [.v 35 4,.f 36 0 1,.l 37 36,.v 38 3,.y 39 1 37 38,.l 40 39,.h 41 40,.k 42 .lss 35 41] (.cond (.t 42) .skip (.exit 2))) (.seq (.block 3 (.sq [.f 45 0 1,.l 46 45,.v 47 3,.y 48 1 46 47,.l 49 48,.v 50 4,.y 51 1 49 50,.l 52 51,.c 53 (.f 172) [.t 52],.v 5 53] (.sq [.v 54 5,.j 55 .neq 54 0] (.cond (.t 55) (.sq [.v 56 5,.v 2 56] .ret) .skip)))) (.reg [.v 43 4,.j 44 .add 43 1,.v 4 44])))
def gm:SC:= .block 2 (.loop dX)
def dY:SC:=(.seq (.sq [.v 14 3,.f 15 0 1,.l 16 15,.h 17 16,.k 18 .lss 14 17] (.cond (.t 18) .skip (.exit 0))) (.seq (.block 1 (.seq (.sq [.f 21 0 1,.l 22 21,.v 23 3,.y 24 1 22 23,.l 25 24,.h 26 25,.j 27 .eql 26 0] (.cond (.t 27) (.sq [.r 2 (.mv (.i 9))] .ret) .skip)) (.seq (.sq [.f 28 0 1,.l 29 28,.v 30 3,.y 31 1 29 30,.l 32 31,.h 33 32,.j 34 .gtr 33 20] (.cond (.t 34) (.sq [.r 2 (.mv (.i 2))] .ret) .skip)) (.sq [.r 4 (.mv (.i 0))] gm)))) (.reg [.v 19 3,.j 20 .add 19 1,.v 3 20])))
def kx:SC:= .block 0 (.loop dY)
def eL:(∀ (B:UInt8),{m:Option (Bool)//∀ r,m=some r->ac Tryz.prog 87 [.int .u8 (B).toNat] (.bool r)})×(∀ (B:List UInt8) (x1:UInt8),{m:Option (Bool)//∀ r,m=some r->ac Tryz.prog 88 [.slice (List.map cP B),.int .u8 (x1).toNat] (.bool r)})×(∀ (B:List UInt8),{m:Option (Bool)//∀ r,m=some r->ac Tryz.prog 47 [.str B] (.bool r)})×(∀ (B:List UInt8),{m:Option (Bool)//∀ r,m=some r->ac Tryz.prog 133 [.str B] (.bool r)}):=by
 refine⟨?g0, ?g1, ?g2, ?g3⟩
 case' g0=>(intro B;apply Subtype.mk;intro r Z;apply av Tryz.func87 ul;unfold oo)
 case' g1=>(intro B x1;apply Subtype.mk;intro r Z;apply av Tryz.func88 m_;unfold iF)
 case' g2=>(intro B;apply Subtype.mk;intro r Z;apply av Tryz.func47 Cf;unfold wA)
 case' g3=>(intro B;apply Subtype.mk;intro r Z;apply av Tryz.func133 Bd;unfold uF)
 all_goals(repeat'(first|with_reducible refine cC ?_|with_reducible refine cv ?_|with_reducible refine fl ?_|with_reducible refine bn ?_|with_reducible refine b5 ?_|with_reducible refine d9 ?_|with_reducible refine cN ?_|with_reducible refine cw ?_|with_reducible refine cE ?_|with_reducible refine cO ?_|with_reducible refine dF ?_|with_reducible refine bD ?_|with_reducible refine cR ?_|with_reducible refine dT ?_|((with_reducible apply fp Z);(iterate 2 (simp only[push_cast,seval];rfl));(intro _;rfl);intro e Z)|((with_reducible apply rj Z);(iterate 2 (simp only[push_cast,seval];rfl));intro e Z)|((with_reducible apply Im Z (H:=cP));(iterate 2 (simp only[push_cast,seval];rfl));(focus((repeat'(first|rfl|(with_reducible first|apply eb|apply ec|apply e7)));done));(simp only[push_cast,seval];rfl);(intro _;rfl);intro e Z)|((with_reducible apply iC);(simp only[push_cast,seval];rfl);(first|exact trivial))|((with_reducible apply nx Z);(simp only[push_cast,seval];rfl);rfl;intro v Z;rotate_left;intro v g Z)|((with_reducible apply rZ Z);(simp only[push_cast,seval];rfl);rfl;intro v Z;rotate_left;intro v g Z)|((with_reducible apply j0 Z);(simp only[push_cast,seval];rfl);(first|apply om _|apply p3 _ _ _|apply pz _ _|apply nJ _ _|apply rB _ _);(any_goals((repeat'(first|rfl|(with_reducible first|apply lI)|(with_reducible apply rk;decide)));done));intro x Z)|((with_reducible apply bv Z);(simp only[push_cast,seval];rfl);intro Z;rotate_left;intro Z)|((with_reducible apply eS Z);(focus(simp only[dE,im,RV.get,push_cast,seval];rfl));(focus((repeat'(first|rfl));done)))|((with_reducible apply fL Z);(simp only[push_cast,seval];rfl))|((with_reducible apply cp Z);intro r Z)|((with_reducible apply eu Z);intro r Z)|((apply aA (b:=2) (X:=gK) (x:=ex) rfl (fun(c:SV×SV) (s:Int)=>st [(3,c.1),(4,c.2),(5,.d (.int .i64 s))] []) (c:=(_,_)) (s0:=_) Z);(focus(first|(dsimp only;done)));(with_reducible refine cS.mk ?_ ?_))|((apply aA (b:=0) (X:=lK) (x:=ey) rfl (fun(c:SV) (s:Int)=>st [(3,c),(4,.d (.int .i64 s))] []) (c:=_) (s0:=_) Z);(focus(first|(dsimp only;done)));(with_reducible refine cS.mk ?_ ?_))|((apply aA (b:=2) (X:=gm) (x:=dX) rfl (fun(c:SV×SV) (s:Int)=>st [(1,c.1),(3,c.2),(4,.d (.int .i64 s))] []) (c:=(_,_)) (s0:=_) Z);(focus(first|(dsimp only;done)));(with_reducible refine cS.mk ?_ ?_))|((apply aA (b:=0) (X:=kx) (x:=dY) rfl (fun(c:SV) (s:Int)=>st [(1,c),(3,.d (.int .i64 s))] []) (c:=_) (s0:=_) Z);(focus(first|(dsimp only;done)));(with_reducible refine cS.mk ?_ ?_))|((apply cr (s':=_) Z);(focus(first|(dsimp only;done))))|((apply ew (s':=_) Z);(focus(first|(dsimp only;done))))|(((with_reducible apply iv Z);intro r Z))|(((with_reducible apply fe.of);(focus(first|(dsimp only;done)));(focus((intro _;repeat'(first|with_reducible exact ea|with_reducible refine b_ ?_|with_reducible refine gj ?_|((with_reducible refine ja ?_);intro _)|((with_reducible refine jb ?_);intro _)))));(intro s o Z;first|unfold ex|unfold ey|unfold dX|unfold dY);rotate_left;intro s Z))|(((apply bH;(repeat'(first|with_reducible exact aR|with_reducible exact aS|with_reducible apply aK|((with_reducible apply aV);(focus(first|(simp only[push_cast,seval];rfl)));(focus((repeat'(first|rfl));done)))));done)))))
def lL (B:UInt8):Option (Bool):=(eL.1 B).1
theorem sR (B:UInt8):∀ r,lL B=some r->ac Tryz.prog 87 [.int .u8 (B).toNat] (.bool r):=(eL.1 B).2
def fW (B:List UInt8) (x1:UInt8):Option (Bool):=(eL.2.1 B x1).1
theorem mI (B:List UInt8) (x1:UInt8):∀ r,fW B x1=some r->ac Tryz.prog 88 [.slice (List.map cP B),.int .u8 (x1).toNat] (.bool r):=(eL.2.1 B x1).2
def sS (B:List UInt8):Option (Bool):=(eL.2.2.1 B).1
theorem sT (B:List UInt8):∀ r,sS B=some r->ac Tryz.prog 47 [.str B] (.bool r):=(eL.2.2.1 B).2
def rp (B:List UInt8):Option (Bool):=(eL.2.2.2 B).1
theorem y6 (B:List UInt8):∀ r,rp B=some r->ac Tryz.prog 133 [.str B] (.bool r):=(eL.2.2.2 B).2
def iN:SC:=(.sq [.k 20 .lss 19 18] (.seq (.cond (.t 20) .skip (.exit 0)) (.seq (.block 1 (.sq [.y 21 1 17 19,.l 22 21,.v 5 22] (.sq [.v 23 5,.c 24 (.f 87) [.t 23],.r 25 (.not (.t 24))] (.cond (.t 25) (.sq [.r 2 (.mv (.i 3))] .ret) .skip)))) (.reg [.j 26 .add 19 1,.v 19 26]))))
def mi:SC:= .block 0 (.loop iN)
def iO:SC:=(.sq [.k 43 .lss 42 41] (.seq (.cond (.t 43) .skip (.exit 2)) (.seq (.block 3 (.sq [.v 44 42,.y 45 1 40 42,.l 46 45,.v 6 44,.v 7 46] (.sq [.v 47 3,.v 48 6,.v 49 3,.h 50 49,.r 51 (.mins (.t 48) [.t 50]),.r 52 (.slc 1 (.t 47) none (some (.t 51))),.v 53 7,.c 54 (.f 88) [.t 52,.t 53]] (.cond (.t 54) (.sq [.r 2 (.mv (.i 7))] .ret) .skip)))) (.reg [.j 55 .add 42 1,.v 42 55]))))
def mj:SC:= .block 2 (.loop iO)
def oq:SC:=(.sq [.r 1 (.boxI (.t 0)),.r 2 (.mv (.i 0))] (.sq [.f 8 0 1,.l 9 8,.f 10 1 1,.l 11 10,.f 12 2 1,.l 13 12,.f 14 4 1,.l 15 14,.r 16 (.bslice 1 [.t 9,.t 11,.t 13,.t 15]),.v 3 16] (.seq (.sq [.v 17 3,.h 18 17,.r 19 (.mv (.i 0))] mi) (.seq (.seq (.reg (.f 27 3 1:: .l 28 27:: .r 29 (.bin .neq (.t 28) (.c (.d (.int .u8 0)))):: .v 30 29::bK [31,32,33,34] 30 true (.f 31 3 1:: .r 32 (.ld1 (.t 31)):: .c 33 (.f 87) [.t 32]:: .r 34 (.not (.t 33))::[]) (.r 35 (.pick (.t 30) (.t 34) (.b false))::[]))) (.cond (.t 35) (.sq [.r 2 (.mv (.i 3))] .ret) .skip)) (.seq (.sq [.v 36 3,.f 37 3 1,.l 38 37,.r 39 (.bslice 1 [.t 38]),.w 40 (.app 5 1 (.t 36) (.t 39)),.h 41 40,.r 42 (.mv (.i 0))] mj) (.sq [.r 2 (.mv (.i 0))] .ret))))))
theorem um:fits Tryz.prog 46 Tryz.f46 oq [.t 2] 1=true:=oK
def o6:SC:=(.sq [.r 2 (.mv (.i 0))] (.seq (.sq [.v 3 0,.r 4 (.lenT (.t 3)),.j 5 .gtr 4 1000] (.cond (.t 5) (.sq [.r 2 (.mv (.i 2))] .ret) .skip)) (.seq (.sq [.v 6 0,.c 7 (.f 133) [.t 6],.r 8 (.not (.t 7))] (.cond (.t 8) (.sq [.r 2 (.mv (.i 3))] .ret) .skip)) (.sq [.r 2 (.mv (.i 0))] .ret))))
theorem vy:fits Tryz.prog 91 Tryz.f91 o6 [.t 2] 1=true:=oK
def e8:SC:=(.seq (.sq [.v 13 3,.f 14 1 1,.l 15 14,.h 16 15,.k 17 .lss 13 16] (.cond (.t 17) .skip (.exit 0))) (.seq (.block 1 (.sq [.f 20 1 1,.l 21 20,.v 22 3,.y 23 1 21 22,.a 24 1 23,.c 25 (.f 149) [.t 24],.v 4 25] (.sq [.v 26 4,.j 27 .neq 26 0] (.cond (.t 27) (.sq [.v 28 4,.v 2 28] .ret) .skip)))) (.reg [.v 18 3,.j 19 .add 18 1,.v 3 19])))
def mJ:SC:= .block 0 (.loop e8)
def kQ:(∀ (B:ab),{m:Option (Int)//∀ r,m=some r->ac Tryz.prog 46 [.agg (aq B)] (.int .i64 r)})×(∀ (B:List UInt8),{m:Option (Int)//∀ r,m=some r->ac Tryz.prog 91 [.str B] (.int .i64 r)}):=by
 refine⟨?g0, ?g1⟩
 case' g0=>(intro B;apply Subtype.mk;intro r Z;apply av Tryz.func46 um;unfold oq)
 case' g1=>(intro B;apply Subtype.mk;intro r Z;apply av Tryz.func91 vy;unfold o6)
 all_goals(repeat'(first|with_reducible refine cC ?_|with_reducible refine cv ?_|with_reducible refine bn ?_|with_reducible refine b5 ?_|with_reducible refine d9 ?_|with_reducible refine cN ?_|with_reducible refine cw ?_|with_reducible refine cE ?_|with_reducible refine cO ?_|with_reducible refine dF ?_|with_reducible refine bD ?_|with_reducible refine cR ?_|with_reducible refine dT ?_|((with_reducible apply fp Z);(iterate 2 (simp only[push_cast,seval];rfl));(intro _;rfl);intro e Z)|((with_reducible apply wt Z);(iterate 3 (simp only[push_cast,seval];rfl));intro e Z)|((with_reducible apply Im Z (H:=cP));(iterate 2 (simp only[push_cast,seval];rfl));(focus((repeat'(first|rfl|(with_reducible first|apply eb|apply ec|apply e7)));done));(simp only[push_cast,seval];rfl);(intro _;rfl);intro e Z)|((with_reducible apply N3 Z (H:=cP));(iterate 2 (simp only[push_cast,seval];rfl));(focus((repeat'(first|rfl|(with_reducible first|apply eb|apply ec|apply e7)));done));(iterate 2 (simp only[push_cast,seval];rfl));intro e Z)|((with_reducible apply iC);(simp only[push_cast,seval];rfl);(first|exact trivial))|((with_reducible apply N0 Z);(iterate 2 (simp only[push_cast,seval];rfl));(intro _;rfl);intro e Z)|((with_reducible apply nx Z);(simp only[push_cast,seval];rfl);rfl;intro v Z;rotate_left;intro v g Z)|((with_reducible apply j0 Z);(simp only[push_cast,seval];rfl);(first|apply sR _|apply mI _ _|apply y6 _);(any_goals((repeat'(first|rfl));done));intro x Z)|((with_reducible apply Qh Z (H:=cP));(iterate 5 (simp only[push_cast,seval];rfl));(focus((repeat'(first|rfl|(with_reducible first|apply eb|apply ec|apply e7)));done));(focus((repeat'(first|rfl|(with_reducible first|apply eb|apply ec|apply e7)));done));rfl;decide;(intro _;rfl);intro Z)|((with_reducible apply bv Z);(simp only[push_cast,seval];rfl);intro Z;rotate_left;intro Z)|((with_reducible apply eS Z);(focus(simp only[dE,im,RV.get,push_cast,seval];rfl));(focus((repeat'(first|rfl));done)))|((with_reducible apply fL Z);(simp only[push_cast,seval];rfl))|((with_reducible apply cp Z);intro r Z)|((with_reducible apply eu Z);intro r Z)|((apply aA (b:=0) (X:=mi) (x:=iN) rfl (fun(c:SV×SV×SV×SV) (s:Int)=>st [(1,c.1),(3,c.2.1),(17,c.2.2.1),(18,c.2.2.2),(19,.d (.int .i64 s))] []) (c:=(_,_,_,_)) (s0:=_) Z);(focus(first|(dsimp only;done)));(with_reducible refine cS.mk ?_ ?_))|((apply aA (b:=2) (X:=mj) (x:=iO) rfl (fun(c:SV×Ch×SV) (s:Int)=>st [(3,c.1),(40,.vec 40),(41,c.2.2),(42,.d (.int .i64 s))] [(40,c.2.1)]) (c:=(_,_,_)) (s0:=_) Z);(focus(first|(dsimp only;done)));(with_reducible refine cS.mk ?_ ?_))|((apply aA (b:=0) (X:=mJ) (x:=e8) rfl (fun(c:SV) (s:Int)=>st [(1,c),(3,.d (.int .i64 s))] []) (c:=_) (s0:=_) Z);(focus(first|(dsimp only;done)));(with_reducible refine cS.mk ?_ ?_))|((apply cr (s':=_) Z);(focus(first|(dsimp only;done))))|((apply ew (s':=_) Z);(focus(first|(dsimp only;done))))|(((with_reducible apply iv Z);intro r Z))|(((with_reducible apply fe.of);(focus(first|(dsimp only;done)));(focus((intro _;repeat'(first|with_reducible exact ea|with_reducible refine b_ ?_))));(intro s o Z;first|unfold iN|unfold iO|unfold e8);rotate_left;intro s Z))|(((apply bH;(repeat'(first|with_reducible exact aR|with_reducible exact aS|with_reducible apply aK|with_reducible apply be|((with_reducible apply aV);(focus(first|(simp only[push_cast,seval];rfl)));(focus((repeat'(first|rfl));done)))|((with_reducible apply cZ);(focus(first|(simp only[push_cast,seval];rfl)));(first|with_reducible exact aN rfl))));done)))))
def fF (B:ab):Option (Int):=(kQ.1 B).1
theorem jc (B:ab):∀ r,fF B=some r->ac Tryz.prog 46 [.agg (aq B)] (.int .i64 r):=(kQ.1 B).2
def mK (B:List UInt8):Option (Int):=(kQ.2 B).1
theorem un (B:List UInt8):∀ r,mK B=some r->ac Tryz.prog 91 [.str B] (.int .i64 r):=(kQ.2 B).2
def ia:SC:=(.sq [.k 32 .lss 31 30] (.seq (.cond (.t 32) .skip (.exit 2)) (.seq (.block 3 (.sq [.y 33 1 29 31,.l 34 33,.v 6 34] (.sq [.v 35 6,.c 36 (.f 91) [.t 35],.v 7 36] (.sq [.v 37 7,.j 38 .neq 37 0] (.cond (.t 38) (.sq [.v 39 7,.v 2 39] .ret) .skip))))) (.reg [.j 40 .add 31 1,.v 31 40]))))
def kR:SC:= .block 2 (.loop ia)
def ib:SC:=(.sq [.k 20 .lss 19 18] (.seq (.cond (.t 20) .skip (.exit 0)) (.seq (.block 1 (.sq [.y 21 1 17 19,.l 22 21,.v 4 22] (.seq (.sq [.v 23 4,.h 24 23,.j 25 .eql 24 0] (.cond (.t 25) (.sq [.r 2 (.mv (.i 9))] .ret) .skip)) (.seq (.sq [.v 26 4,.h 27 26,.j 28 .gtr 27 20] (.cond (.t 28) (.sq [.r 2 (.mv (.i 2))] .ret) .skip)) (.sq [.v 29 4,.h 30 29,.r 31 (.mv (.i 0))] kR))))) (.reg [.j 41 .add 19 1,.v 19 41]))))
def kS:SC:= .block 0 (.loop ib)
def na:SC:=(.sq [.r 1 (.boxI (.t 0)),.r 2 (.mv (.i 0))] (.seq (.sq [.f 8 0 1,.l 9 8,.h 10 9,.j 11 .eql 10 0] (.cond (.t 11) (.sq [.r 2 (.mv (.i 9))] .ret) .skip)) (.seq (.sq [.f 12 0 1,.l 13 12,.h 14 13,.j 15 .gtr 14 20] (.cond (.t 15) (.sq [.r 2 (.mv (.i 2))] .ret) .skip)) (.seq (.sq [.f 16 0 1,.l 17 16,.h 18 17,.r 19 (.mv (.i 0))] kS) (.sq [.r 2 (.mv (.i 0))] .ret)))))
theorem r_:fits Tryz.prog 48 Tryz.f48 na [.t 2] 1=true:=oK
def dH:SC:=(.seq (.sq [.v 8 3,.v 9 0,.h 10 9,.k 11 .lss 8 10] (.cond (.t 11) .skip (.exit 0))) (.seq (.block 1 (.sq [.v 14 0,.v 15 3,.y 16 2 14 15,.a 17 2 16,.c 18 (.f 104) [.t 17],.v 4 18] (.sq [.v 19 4,.j 20 .neq 19 0] (.cond (.t 20) (.sq [.v 21 4,.v 2 21] .ret) .skip)))) (.reg [.v 12 3,.j 13 .add 12 1,.v 3 13])))
def j2:SC:= .block 0 (.loop dH)
def sU:(∀ (B:aj),{m:Option (Int)//∀ r,m=some r->ac Tryz.prog 48 [.agg (az B)] (.int .i64 r)}):=by
 (intro B;apply Subtype.mk;intro r Z;apply av Tryz.func48 r_;unfold na)
 repeat'(first|with_reducible refine cC ?_|with_reducible refine cv ?_|with_reducible refine bn ?_|with_reducible refine b5 ?_|with_reducible refine d9 ?_|with_reducible refine cN ?_|with_reducible refine cw ?_|with_reducible refine cE ?_|with_reducible refine cO ?_|with_reducible refine dF ?_|with_reducible refine bD ?_|with_reducible refine cR ?_|with_reducible refine dT ?_|((with_reducible apply fp Z);(iterate 2 (simp only[push_cast,seval];rfl));(intro _;rfl);intro e Z)|((with_reducible apply iC);(simp only[push_cast,seval];rfl);(first|exact trivial))|((with_reducible apply j0 Z);(simp only[push_cast,seval];rfl);(first|apply un _);(any_goals((repeat'(first|rfl));done));intro x Z)|((with_reducible apply bv Z);(simp only[push_cast,seval];rfl);intro Z;rotate_left;intro Z)|((with_reducible apply eS Z);(focus(simp only[dE,im,RV.get,push_cast,seval];rfl));(focus((repeat'(first|rfl));done)))|((with_reducible apply cp Z);intro r Z)|((with_reducible apply eu Z);intro r Z)|((apply aA (b:=2) (X:=kR) (x:=ia) rfl (fun(c:SV×SV×SV×SV×SV) (s:Int)=>st [(17,c.1),(18,c.2.1),(19,c.2.2.1),(29,c.2.2.2.1),(30,c.2.2.2.2),(31,.d (.int .i64 s))] []) (c:=(_,_,_,_,_)) (s0:=_) Z);(focus(first|(dsimp only;done)));(with_reducible refine cS.mk ?_ ?_))|((apply aA (b:=0) (X:=kS) (x:=ib) rfl (fun(c:SV×SV) (s:Int)=>st [(17,c.1),(18,c.2),(19,.d (.int .i64 s))] []) (c:=(_,_)) (s0:=_) Z);(focus(first|(dsimp only;done)));(with_reducible refine cS.mk ?_ ?_))|((apply aA (b:=0) (X:=j2) (x:=dH) rfl (fun(c:SV) (s:Int)=>st [(0,c),(3,.d (.int .i64 s))] []) (c:=_) (s0:=_) Z);(focus(first|(dsimp only;done)));(with_reducible refine cS.mk ?_ ?_))|((apply cr (s':=_) Z);(focus(first|(dsimp only;done))))|((apply ew (s':=_) Z);(focus(first|(dsimp only;done))))|(((with_reducible apply iv Z);intro r Z))|(((with_reducible apply fe.of);(focus(first|(dsimp only;done)));(focus((intro _;repeat'(first|with_reducible exact ea|with_reducible refine b_ ?_|with_reducible refine gj ?_|((with_reducible refine ja ?_);intro _)|((with_reducible refine jb ?_);intro _)))));(intro s o Z;first|unfold ia|unfold ib|unfold dH);rotate_left;intro s Z))|(((apply bH;(repeat'(first|with_reducible exact aR|with_reducible exact aS|with_reducible apply aK|((with_reducible apply aV);(focus(first|(simp only[push_cast,seval];rfl)));(focus((repeat'(first|rfl));done)))));done))))
def jJ (B:aj):Option (Int):=(sU B).1
theorem rq (B:aj):∀ r,jJ B=some r->ac Tryz.prog 48 [.agg (az B)] (.int .i64 r):=(sU B).2
def gX:SC:=(.sq [.k 29 .lss 28 27] (.seq (.cond (.t 29) .skip (.exit 2)) (.seq (.block 3 (.sq [.y 30 1 26 28,.a 31 1 30,.w 6 (.boxM (.c (.agg [.nils]))),.s 1 6 31] (.sq [.a 32 1 6,.c 33 (.f 48) [.t 32],.v 7 33] (.sq [.v 34 7,.j 35 .neq 34 0] (.cond (.t 35) (.sq [.v 36 7,.v 2 36] .ret) .skip))))) (.reg [.j 37 .add 28 1,.v 28 37]))))
def j3:SC:= .block 2 (.loop gX)
def gY:SC:=(.sq [.k 14 .lss 13 12] (.seq (.cond (.t 14) .skip (.exit 0)) (.seq (.block 1 (.sq [.y 15 2 11 13,.a 16 2 15,.w 4 (.boxM (.c (.agg [.d (.str []),.nils]))),.s 2 4 16] (.seq (.sq [.f 17 0 4,.l 18 17,.c 19 (.f 47) [.t 18],.r 20 (.not (.t 19))] (.cond (.t 20) (.sq [.r 2 (.mv (.i 5))] .ret) .skip)) (.seq (.sq [.f 21 1 4,.l 22 21,.h 23 22,.j 24 .gtr 23 50] (.cond (.t 24) (.sq [.r 2 (.mv (.i 2))] .ret) .skip)) (.sq [.f 25 1 4,.l 26 25,.h 27 26,.r 28 (.mv (.i 0))] j3))))) (.reg [.j 38 .add 13 1,.v 13 38]))))
def j4:SC:= .block 0 (.loop gY)
def ml:SC:=(.sq [.r 2 (.mv (.i 0))] (.seq (.sq [.v 8 0,.h 9 8,.j 10 .gtr 9 2000] (.cond (.t 10) (.sq [.r 2 (.mv (.i 2))] .ret) .skip)) (.seq (.sq [.v 11 0,.h 12 11,.r 13 (.mv (.i 0))] j4) (.sq [.r 2 (.mv (.i 0))] .ret))))
theorem rr:fits Tryz.prog 20 Tryz.f20 ml [.t 2] 1=true:=oK
def sV:(∀ (B:List aa),{m:Option (Int)//∀ r,m=some r->ac Tryz.prog 20 [.slice (List.map ae B)] (.int .i64 r)}):=by
 (intro B;apply Subtype.mk;intro r Z;apply av Tryz.func20 rr;unfold ml)
 repeat'(first|with_reducible refine cC ?_|with_reducible refine cv ?_|with_reducible refine bn ?_|with_reducible refine b5 ?_|with_reducible refine d9 ?_|with_reducible refine cN ?_|with_reducible refine cw ?_|with_reducible refine cE ?_|with_reducible refine cO ?_|with_reducible refine dF ?_|with_reducible refine bD ?_|with_reducible refine cR ?_|with_reducible refine dT ?_|((with_reducible apply fp Z);(iterate 2 (simp only[push_cast,seval];rfl));(intro _;rfl);intro e Z)|((with_reducible apply iC);(simp only[push_cast,seval];rfl);(first|exact trivial))|((with_reducible apply j0 Z);(simp only[push_cast,seval];rfl);(first|apply sT _|apply rq _);(any_goals((repeat'(first|rfl));done));intro x Z)|((with_reducible apply uB);(simp only[push_cast,seval];rfl);(first|exact trivial))|((with_reducible apply bv Z);(simp only[push_cast,seval];rfl);intro Z;rotate_left;intro Z)|((with_reducible apply eS Z);(focus(simp only[dE,im,RV.get,push_cast,seval];rfl));(focus((repeat'(first|rfl));done)))|((with_reducible apply cp Z);intro r Z)|((with_reducible apply eu Z);intro r Z)|((apply aA (b:=2) (X:=j3) (x:=gX) rfl (fun(c:SV×SV×SV×SV×SV) (s:Int)=>st [(11,c.1),(12,c.2.1),(13,c.2.2.1),(26,c.2.2.2.1),(27,c.2.2.2.2),(28,.d (.int .i64 s))] []) (c:=(_,_,_,_,_)) (s0:=_) Z);(focus(first|(dsimp only;done)));(with_reducible refine cS.mk ?_ ?_))|((apply aA (b:=0) (X:=j4) (x:=gY) rfl (fun(c:SV×SV) (s:Int)=>st [(11,c.1),(12,c.2),(13,.d (.int .i64 s))] []) (c:=(_,_)) (s0:=_) Z);(focus(first|(dsimp only;done)));(with_reducible refine cS.mk ?_ ?_))|((apply cr (s':=_) Z);(focus(first|(dsimp only;done))))|((apply ew (s':=_) Z);(focus(first|(dsimp only;done))))|(((with_reducible apply iv Z);intro r Z))|(((with_reducible apply fe.of);(focus(first|(dsimp only;done)));(focus((intro _;repeat'(first|with_reducible exact ea|with_reducible refine b_ ?_|with_reducible refine gj ?_|((with_reducible refine ja ?_);intro _)|((with_reducible refine jb ?_);intro _)))));(intro s o Z;first|unfold gX|unfold gY);rotate_left;intro s Z))|(((apply bH;(repeat'(first|with_reducible exact aR|with_reducible exact aS|with_reducible apply aK|((with_reducible apply aV);(focus(first|(simp only[push_cast,seval];rfl)));(focus((repeat'(first|rfl));done)))));done))))
def jd (B:List aa):Option (Int):=(sV B).1
theorem ic (B:List aa):∀ r,jd B=some r->ac Tryz.prog 20 [.slice (List.map ae B)] (.int .i64 r):=(sV B).2
end
end Go.Proofs.YtgmnipfafmphaaaGreatDoor
namespace Go.Proofs.YtgmnipfafmphaaaGreatDoor
set_option linter.unusedSimpArgs false
set_option linter.unusedVariables false
open Go.RowKit Go.Lib
theorem qM:∀ (l:List DV),SV.toDVs (dR l)=some l
 |[]=>rfl
 |d::l=>by
  have ih:=qM l
  simp only[dR,Tc,SV.toDVs,SV.toDV] at ih⊢
  rw[ih]
end Go.Proofs.YtgmnipfafmphaaaGreatDoor
namespace Go.Proofs.YtgmnipfafmphaaaGreatDoor
set_option linter.unusedSimpArgs false
set_option linter.unusedVariables false
open Go.RowKit Go.Lib
theorem EF:∀ (rows:List (List DV)),(rows.map dR).flatten=dR rows.flatten
 |[]=>rfl
 |r::rows=>by
  have ih:=EF rows
  simp only[dR,Tc,TF,TY] at ih⊢
  rw[ih]
theorem Mr {P:Program} {f:FuncId} {args:List DV} {rows:List (List DV)} {size e:Nat} (c:jW P f=true) (W:∀ r∈rows,r.length=size) (h:∀ (w:World) (M:Nat->Prop) (vs:List Value),(∀ b,M b->b<w.heap.size)->aC w M args vs->Calls P f vs.toArray w fun ev w'=>∃ v k,ev= .returned v/\w'.ownsRow w.heap.size e size v rows.length k/\aC w M rows.flatten k/\(∀ u∈k,u.oneCell'=true)/\Below w.heap.size w w'):
  bu P f (args.map .d) (.own (.sl e (List.replicate size .sh)) (.slice rows)) (args.map .d):=by
 refine⟨c,fun w M vs F hM B hn hv _ _=> ?_⟩
 have r1:SV.noOwns (args.map SV.d)=true:=lH _ _ (qM args)
 obtain⟨hS,rfl⟩:=ap.to_S _ _ _ r1 hv
 have t:=an.toDVs _ _ _ hS (qM args)
 refine(h w _ vs (fun b hb=>by rcases hb with hb|hb;exact(hM b hb).1;cases hb) t).mono ?_
 rintro ev w' ⟨v,k,rfl,ho,p,h1,hB⟩
 have a:∀ b∈fz v,w.heap.size<=b/\b<w'.heap.size:=by
  intro b hb
  rcases ho.2 with⟨rfl,_⟩|⟨g,N,I,rfl,r8,hg,_⟩
  ·simp[fz,sc] at hb
  ·simp[fz,sc] at hb
   subst hb
   exact⟨r8,(Ts.1 hg).1⟩
 have Q:jE w (fun b=>M b\/b∈([]:List Nat)) w' (fun b=>M b\/b∈[]++fz v):=⟨hB.size,fun b hb Z=>⟨hB.block b hb,fun r7=>by
  rcases r7 with r7|r7
  ·exact Z (.inl r7)
  ·have:=(a b (by simpa using r7)).1;omega⟩⟩
 refine⟨v,[],fz v,rfl,ap.of_S _ _ (an.of_d (t.ext Q)), ?_, ?_, ?_,CI.of_below hB⟩
 ·unfold aO eO
  refine⟨rows,k,[],rfl,⟨by simpa using ho.1, ?_⟩,h1,by simpa using W, ?_,by simp⟩
  ·rcases ho.2 with hn|⟨g,N,I,hv,hb,z⟩
   ·exact .inl hn
   ·simp only[Tn]
    exact .inr ⟨g,N,I,hv,TK _,z⟩
  ·refine(mZ (κ:=κ0) (by simpa using W)).1 ?_
   have e1:rows.map (bi (List.replicate size .sh))=rows.map dR:=TR fun r D=>by
    have:=rm (H:=fun _:Unit=>r) (n:=size) (fun _=>W r D) [()]
    simpa[aM] using this
   rw[e1,EF]
   exact ap.of_S _ _ (an.of_d (p.ext Q))
 ·cases r9:sc v with
  |none=>simp[fz,r9]
  |some b=>simp[fz,r9]
 ·intro b hb
  have:=a b (by simpa using hb)
  exact⟨.inr this.1,this.2⟩
end Go.Proofs.YtgmnipfafmphaaaGreatDoor
namespace Go.Proofs.YtgmnipfafmphaaaGreatDoor
set_option linter.unusedSimpArgs false
set_option linter.unusedVariables false
open Go.RowKit Go.Lib
variable {e:Nat}
theorem BH {w:World} {n m s k:Nat} {v:Value} {xs:List Value} (h:n<=m) (ho:w.ownsRow m e s v k xs):w.ownsRow n e s v k xs:=by
 refine⟨ho.1, ?_⟩
 rcases ho.2 with hn|⟨g,N,I,hv,hb,z⟩
 ·exact .inl hn
 ·exact .inr ⟨g,N,I,hv,TW h hb,z⟩
theorem JX {P:Program} {f:FuncId} {args:List DV} {rows:List (List DV)} {size:Nat} {n:Int} (c:jW P f=true) (W:∀ r∈rows,r.length=size) (h:∀ (w:World) (M:Nat->Prop) (vs:List Value),(∀ b,M b->b<w.heap.size)->aC w M args vs->vU w->Calls P f vs.toArray w fun ev w'=>∃ v k,ev= .returned (.tuple #[v,.int .i64 n])/\w'.ownsRow w.heap.size e size v rows.length k/\aC w M rows.flatten k/\(∀ u∈k,u.oneCell'=true)/\Below w.heap.size w w'):
  bu P f (args.map .d) (.tup [.own (.sl e (List.replicate size .sh)) (.slice rows),.d (.int .i64 n)]) (args.map .d):=by
 refine⟨c,fun w M vs F hM B hn hv hg _=> ?_⟩
 have r1:SV.noOwns (args.map SV.d)=true:=lH _ _ (qM args)
 obtain⟨hS,rfl⟩:=ap.to_S _ _ _ r1 hv
 have t:=an.toDVs _ _ _ hS (qM args)
 refine(h w _ vs (fun b hb=>by rcases hb with hb|hb;exact(hM b hb).1;cases hb) t hg).mono ?_
 rintro ev w' ⟨v,k,rfl,ho,p,h1,hB⟩
 have a:∀ b∈fz v,w.heap.size<=b/\b<w'.heap.size:=by
  intro b hb
  rcases ho.2 with⟨rfl,_⟩|⟨g,N,I,rfl,r8,hg,_⟩
  ·simp[fz,sc] at hb
  ·simp[fz,sc] at hb
   subst hb
   exact⟨r8,(Ts.1 hg).1⟩
 have Q:jE w (fun b=>M b\/b∈([]:List Nat)) w' (fun b=>M b\/b∈[]++fz v):=⟨hB.size,fun b hb Z=>⟨hB.block b hb,fun r7=>by
  rcases r7 with r7|r7
  ·exact Z (.inl r7)
  ·have:=(a b (by simpa using r7)).1;omega⟩⟩
 refine⟨_,[],fz v,rfl,ap.of_S _ _ (an.of_d (t.ext Q)), ?_, ?_, ?_,CI.of_below hB⟩
 ·unfold aO
  refine⟨[v,.int .i64 n],rfl, ?_⟩
  simp only[ap]
  refine⟨v,_,fz v,[],rfl,(Tg _).symm, ?_,_,_,[],[],rfl,rfl, ?_,rfl,rfl⟩
  rotate_left
  ·unfold aO;exact⟨rfl,by simp only[ai,aW]⟩
  unfold aO eO
  refine⟨rows,k,[],rfl,⟨by simpa using ho.1, ?_⟩,h1,by simpa using W, ?_,by simp⟩
  ·rcases ho.2 with hn|⟨g,N,I,hv,hb,z⟩
   ·exact .inl hn
   ·simp only[Tn]
    exact .inr ⟨g,N,I,hv,TK _,z⟩
  ·refine(mZ (κ:=κ0) (by simpa using W)).1 ?_
   have e1:rows.map (bi (List.replicate size .sh))=rows.map dR:=TR fun r D=>by
    have:=rm (H:=fun _:Unit=>r) (n:=size) (fun _=>W r D) [()]
    simpa[aM] using this
   rw[e1,EF]
   exact ap.of_S _ _ (an.of_d (p.ext Q))
 ·cases r9:sc v with
  |none=>simp[fz,r9]
  |some b=>simp[fz,r9]
 ·intro b hb
  have:=a b (by simpa using hb)
  exact⟨.inr this.1,this.2⟩
end Go.Proofs.YtgmnipfafmphaaaGreatDoor
namespace Go.Proofs.YtgmnipfafmphaaaGreatDoor
set_option maxRecDepth 100000
set_option linter.unusedSimpArgs false
set_option linter.unusedVariables false
open Go.RowKit Go.Shelf Go.Lib
def ft (x:ab):List UInt8:=[77,82,75,x.fElement,x.fPart,x.fRepeat,if x.fEscape=0 then 32 else x.fEscape,x.fEnd]
noncomputable def fv (B:ab):Option (List UInt8×Int):=(fF B).bind fun c=>if c=0 then some (ft B,0) else some ([],c)
theorem x8 (w:World) (C:Array Value) (e:TypeId) (m:Nat×Nat) (j:Nat) (u:Value) (h:C.toList[j]?=some u):(w.alloc (.cells C e m)).cell? ((⟨w.heap.size,0,none⟩:Addr).add j)=some u:=by
 have hh:(w.alloc (.cells C e m)).heap[w.heap.size]?=some (.cells C e m):=by
  show(w.heap.push _)[w.heap.size]?=_
  simp
 rw[Addr.add_lit]
 unfold World.cell?
 rw[hh]
 simpa using h
theorem BG (w:World) (o:Obj) (C:Array Value) (e:TypeId) (m:Nat×Nat) (j:Nat) (u:Value) (h:C.toList[j]?=some u):((w.alloc o).alloc (.cells C e m)).cell? ((⟨w.heap.size+1,0,none⟩:Addr).add j)=some u:=by
 have hs:(w.alloc o).heap.size=w.heap.size+1:=by show(w.heap.push _).size=_;rw[Uw]
 have:=x8 (w.alloc o) C e m j u h
 rwa[hs] at this
theorem Rs (b:UInt8) (h:((b.toNat:Int)==0)=true):(if b=0 then(32:UInt8) else b)=32:=by
 have h1:(b.toNat:Int)=0:=by simpa using h
 have h2:b=0:=Up.1 (by show b.toNat=0;omega)
 rw[U4 h2]
theorem Rt (b:UInt8) (h:((b.toNat:Int)==0)=false):(if b=0 then(32:UInt8) else b)=b:=by
 rw[if_neg]
 rintro rfl
 simp at h
theorem Sg:∃ i z,Tryz.prog.info? 5=some i/\i.zero=some z/\i.size=1/\i.bytes=1/\z.cells.size=1:=⟨_,_,rfl,rfl,rfl,rfl,rfl⟩
set_option maxHeartbeats 4000000 in
theorem Cq (B:ab) (r:List UInt8×Int) (D:fv B=some r) (w:World) (M:Nat->Prop) (vs:List Value) (hM:∀ b,M b->b<w.heap.size) (hv:aC w M [.agg (aq B)] vs) (hg:vU w):
  Calls Tryz.prog 19 vs.toArray w fun ev w'=>∃ v,ev= .returned (.tuple #[v,.int .i64 r.2])/\w'.ownsRow w.heap.size 5 1 v r.1.length (r.1.map fun b=>(b.toNat:Int)|>Value.int .u8)/\Below w.heap.size w w':=by
 unfold fv at D
 cases hc:fF B with
 |none=>rw[hc] at D;cases D
 |some c=>
 rw[hc] at D
 simp only[SQ] at D
 have Y:=jc B c hc
 simp only[aC,aW,aq] at hv
 obtain⟨u,R,rfl,⟨vs,rfl, -,u0,s,rfl,rfl,u1,t,rfl,rfl,u2,x,rfl,rfl,u3,y,rfl,rfl,u4,A,rfl,rfl,rfl⟩,rfl⟩:=hv
 have f:=Y.2 (w.alloc (.cells #[.int .u8 B.fElement.toNat,.int .u8 B.fPart.toNat,.int .u8 B.fRepeat.toNat,.int .u8 B.fEscape.toNat,.int .u8 B.fEnd.toNat] 43)) M _ (fun b hb=>by have:=hM b hb;show b<(w.heap.push _).size;rw[Uw];omega) (by simp only[aC,aW,aq];exact⟨_,_,rfl,⟨_,rfl,by simp[Value.oneCell'],_,_,rfl,rfl,_,_,rfl,rfl,_,_,rfl,rfl,_,_,rfl,rfl,_,_,rfl,rfl,rfl⟩,rfl⟩) (hg.below ((Below.refl _ w).alloc (SZ _) _))
 have E:=fun(w:World) (C:Array Value) (n c:Nat)=>Lib.run_convert_bytes_const (P:=Tryz.prog) w 41 5 C n c Tryz.underlying41 Tryz.underlying5
 have F:(w.alloc (.cells #[.int .u8 B.fElement.toNat,.int .u8 B.fPart.toNat,.int .u8 B.fRepeat.toNat,.int .u8 B.fEscape.toNat,.int .u8 B.fEnd.toNat] 43)).heap.size=w.heap.size+1:=by show(w.heap.push _).size=_;rw[Uw]
 have L:∀ k,(w.alloc (.cells #[.int .u8 B.fElement.toNat,.int .u8 B.fPart.toNat,.int .u8 B.fRepeat.toNat,.int .u8 B.fEscape.toNat,.int .u8 B.fEnd.toNat] 43)).cell? ⟨w.heap.size,k,none⟩=(#[.int .u8 B.fElement.toNat,.int .u8 B.fPart.toNat,.int .u8 B.fRepeat.toNat,.int .u8 B.fEscape.toNat,.int .u8 B.fEnd.toNat]:Array Value)[k]?:=by
  intro k
  have hh:(w.alloc (.cells #[.int .u8 B.fElement.toNat,.int .u8 B.fPart.toNat,.int .u8 B.fRepeat.toNat,.int .u8 B.fEscape.toNat,.int .u8 B.fEnd.toNat] 43)).heap[w.heap.size]?=some (.cells #[.int .u8 B.fElement.toNat,.int .u8 B.fPart.toNat,.int .u8 B.fRepeat.toNat,.int .u8 B.fEscape.toNat,.int .u8 B.fEnd.toNat] 43):=by
   show(w.heap.push _)[w.heap.size]?=_
   simp
  unfold World.cell?
  rw[hh]
  rfl
 by_cases h0:c=0
 ·subst h0
  obtain⟨i0,z,hi,G,K,d,Q⟩:=Sg
  go_enter Tryz.func19,Tryz.ntmps19
  go_wp2_with (first|(go_at_call 46;refine f.mono ?_;rintro e w' ⟨v,rfl,V,hB⟩;simp only[aW] at V;subst V;have g:=(hB.cell (p:=⟨w.heap.size,0,none⟩) (by rw[F];exact Nat.lt_succ_self _)).trans (L 0);have T:=(hB.cell (p:=⟨w.heap.size,1,none⟩) (by rw[F];exact Nat.lt_succ_self _)).trans (L 1);have c2:=(hB.cell (p:=⟨w.heap.size,2,none⟩) (by rw[F];exact Nat.lt_succ_self _)).trans (L 2);have S:=(hB.cell (p:=⟨w.heap.size,3,none⟩) (by rw[F];exact Nat.lt_succ_self _)).trans (L 3);have i:=(hB.cell (p:=⟨w.heap.size,4,none⟩) (by rw[F];exact Nat.lt_succ_self _)).trans (L 4);dsimp at g T c2 S i;have d0:=fun o=>Lib.cell?_alloc_marked (W:=w') o g;have H:=fun o=>Lib.cell?_alloc_marked (W:=w') o T;have d2:=fun o=>Lib.cell?_alloc_marked (W:=w') o c2;have q:=fun o=>Lib.cell?_alloc_marked (W:=w') o S;have a:=fun o=>Lib.cell?_alloc_marked (W:=w') o i)|(at_builtin;refine wpList_append_grows _ rfl _ _ 41 rfl 5 i0 z 1 1 Tryz.underlying41 hi G K d Q oD _ 3 3 [.int .u8 77,.int .u8 82,.int .u8 75] rfl (fun h=>by cases h) rfl (by rintro b ⟨⟩ j u hj;exact Lib.cell?_alloc_marked _ (x8 _ _ _ _ j u hj)) _ 5 _ [.int .u8 B.fElement.toNat,.int .u8 B.fPart.toNat,.int .u8 B.fRepeat.toNat,.int .u8 32,.int .u8 B.fEnd.toNat] rfl rfl (by intro j u hj;exact BG _ _ _ _ _ j u hj) (by simp[Value.oneCell']) oD oD oD ?_)|(at_builtin;refine wpList_append_grows _ rfl _ _ 41 rfl 5 i0 z 1 1 Tryz.underlying41 hi G K d Q oD _ 3 3 [.int .u8 77,.int .u8 82,.int .u8 75] rfl (fun h=>by cases h) rfl (by rintro b ⟨⟩ j u hj;exact Lib.cell?_alloc_marked _ (x8 _ _ _ _ j u hj)) _ 5 _ [.int .u8 B.fElement.toNat,.int .u8 B.fPart.toNat,.int .u8 B.fRepeat.toNat,.int .u8 B.fEscape.toNat,.int .u8 B.fEnd.toNat] rfl rfl (by intro j u hj;exact BG _ _ _ _ _ j u hj) (by simp[Value.oneCell']) oD oD oD ?_))
  ·intro v' I X m
   have he:((B.fEscape.toNat:Int)==0)=true:=by assumption
   rw[U4 trivial] at D
   cases D
   have hW:Below w.heap.size w w':=((Below.refl _ w).alloc (SZ _) _).trans (hB.mono (by rw[F];omega))
   have s0:=hW.size
   have l:Below w.heap.size w I:=((hW.alloc s0 _).alloc (by show _<=(w'.heap.push _).size;rw[Uw];omega) _).grown m (by show _<=((w'.heap.push _).push _).size;rw[Uw,Uw];omega) (by intro k hk;cases hk)
   go_wp2
   go_ret2
   refine⟨_,rfl, ?_,l⟩
   have h5:=Rs _ he
   simp only[ft,h5]
   exact BH (show w.heap.size<=w'.heap.size+1+1 by omega) X
  ·intro v' I X m
   have he:((B.fEscape.toNat:Int)==0)=false:=by assumption
   rw[U4 trivial] at D
   cases D
   have hW:Below w.heap.size w w':=((Below.refl _ w).alloc (SZ _) _).trans (hB.mono (by rw[F];omega))
   have s0:=hW.size
   have l:Below w.heap.size w I:=((hW.alloc s0 _).alloc (by show _<=(w'.heap.push _).size;rw[Uw];omega) _).grown m (by show _<=((w'.heap.push _).push _).size;rw[Uw,Uw];omega) (by intro k hk;cases hk)
   go_wp2
   go_ret2
   refine⟨_,rfl, ?_,l⟩
   have h5:=Rt _ he
   simp only[ft,h5]
   exact BH (show w.heap.size<=w'.heap.size+1+1 by omega) X
 ·go_enter Tryz.func19,Tryz.ntmps19
  go_wp2_with (go_at_call 46;refine f.mono ?_;rintro e w' ⟨v,rfl,V,hB⟩;simp only[aW] at V;subst V)
  rw[if_neg h0] at D
  cases D
  go_ret2
  exact⟨_,rfl,⟨rfl,.inl ⟨rfl,rfl⟩⟩,((Below.refl _ w).alloc (SZ _) _).trans (hB.mono (by rw[F];omega))⟩
theorem oC (B:ab):∀ r,fv B=some r->bu Tryz.prog 19 ([.agg (aq B)].map .d) (.tup [.own (.sl 5 (List.replicate 1 .sh)) (.slice (List.map cP r.1)),.d (.int .i64 r.2)]) ([.agg (aq B)].map .d):=by
 intro r D
 refine JX oK (by intro r D;obtain⟨b,_,rfl⟩:=Tp.1 D;rfl) (fun w M vs hM hv hg=> ?_)
 refine(Cq B r D w M vs hM hv hg).mono ?_
 rintro ev w' ⟨v,rfl,ho,hB⟩
 refine⟨v,_,rfl,by rw[TL];exact ho, ?_, ?_,hB⟩
 ·clear ho D
  induction r.1 with
  |nil=>simp[aC]
  |cons b l ih=>simp only[Tc,TF,cP,Td,S8,aC,aW];exact⟨_,_,rfl,rfl,ih⟩
 ·intro u hu
  obtain⟨b,_,rfl⟩:=Tp.1 hu
  rfl
theorem wP (B:ab):∀ r,fv B=some r->ac Tryz.prog 19 [.agg (aq B)] (.tup [.slice (List.map cP r.1),.int .i64 r.2]):=fun r D=>(oC B r D).pure rfl
end Go.Proofs.YtgmnipfafmphaaaGreatDoor
namespace Go.Proofs
open Go.Proofs.YtgmnipfafmphaaaGreatDoor
open Go.Shelf
def Tryz.lays171_ren:Go.Shelf.Ren:=⟨fun|171=>43|243=>85|246=>125|283=>156|284=>157|285=>158|286=>159|129=>177|317=>176|318=>178|319=>179|320=>180|337=>191|338=>192|n=>n,fun|3=>3|9=>9|2=>2|4=>4|171=>211|0=>0|53=>212|37=>41|5=>5|173=>215|212=>232|51=>233|20=>20|213=>234|46=>218|232=>250|233=>251|n=>n,fun|17=>3|18=>6|19=>7|n=>n⟩
theorem Tryz.lays171:Go.Proofs.LaysM.n171 Tryz.prog Tryz.lays171_ren:={
 mixed:=oK
 f129:=Tryz.func177.trans (TX some oK)
 f171:=Tryz.func43.trans (TX some oK)
 f243:=Tryz.func85.trans (TX some oK)
 f246:=Tryz.func125.trans (TX some oK)
 f283:=Tryz.func156.trans (TX some oK)
 f284:=Tryz.func157.trans (TX some oK)
 f285:=Tryz.func158.trans (TX some oK)
 f286:=Tryz.func159.trans (TX some oK)
 f317:=Tryz.func176.trans (TX some oK)
 f318:=Tryz.func178.trans (TX some oK)
 f319:=Tryz.func179.trans (TX some oK)
 f320:=Tryz.func180.trans (TX some oK)
 f337:=Tryz.func191.trans (TX some oK)
 f338:=Tryz.func192.trans (TX some oK)
 t0:=Tryz.underlying0
 a0:=Tryz.isAgg0
 z0:=Tryz.sizeOf0
 v0:=Tryz.zeroValue0
 t2:=Tryz.underlying2
 a2:=Tryz.isAgg2
 z2:=Tryz.sizeOf2
 v2:=Tryz.zeroValue2
 t3:=Tryz.underlying3
 a3:=Tryz.isAgg3
 z3:=Tryz.sizeOf3
 v3:=Tryz.zeroValue3
 t4:=Tryz.underlying4
 a4:=Tryz.isAgg4
 z4:=Tryz.sizeOf4
 v4:=Tryz.zeroValue4
 t5:=Tryz.underlying5
 a5:=Tryz.isAgg5
 z5:=Tryz.sizeOf5
 v5:=Tryz.zeroValue5
 t9:=Tryz.underlying9
 a9:=Tryz.isAgg9
 z9:=Tryz.sizeOf9
 v9:=Tryz.zeroValue9
 t20:=Tryz.underlying20
 a20:=Tryz.isAgg20
 z20:=Tryz.sizeOf20
 v20:=Tryz.zeroValue20
 t37:=Tryz.underlying41
 a37:=Tryz.isAgg41
 z37:=Tryz.sizeOf41
 v37:=Tryz.zeroValue41
 t46:=Tryz.underlying218
 a46:=Tryz.isAgg218
 z46:=Tryz.sizeOf218
 v46:=Tryz.zeroValue218
 t51:=Tryz.underlying233
 a51:=Tryz.isAgg233
 z51:=Tryz.sizeOf233
 v51:=Tryz.zeroValue233
 t53:=Tryz.underlying212
 a53:=Tryz.isAgg212
 z53:=Tryz.sizeOf212
 v53:=Tryz.zeroValue212
 t171:=Tryz.underlying211
 a171:=Tryz.isAgg211
 z171:=Tryz.sizeOf211
 v171:=Tryz.zeroValue211
 t173:=Tryz.underlying215
 a173:=Tryz.isAgg215
 z173:=Tryz.sizeOf215
 v173:=Tryz.zeroValue215
 t212:=Tryz.underlying232
 a212:=Tryz.isAgg232
 z212:=Tryz.sizeOf232
 v212:=Tryz.zeroValue232
 t213:=Tryz.underlying234
 a213:=Tryz.isAgg234
 z213:=Tryz.sizeOf234
 t232:=Tryz.underlying250
 a232:=Tryz.isAgg250
 z232:=Tryz.sizeOf250
 v232:=Tryz.zeroValue250
 t233:=Tryz.underlying251
 a233:=Tryz.isAgg251
 z233:=Tryz.sizeOf251
 v233:=Tryz.zeroValue251
 g17:=oK
 g18:=oK
 g19:=oK
 i0:=oK
 i2:=oK
 i3:=oK
 i4:=oK
 i5:=oK
 i9:=oK
 i20:=oK
 i37:=oK
 i46:=oK
 i51:=oK
 i53:=oK
 i171:=oK
 i173:=oK
 i212:=oK
 i232:=oK
 i233:=oK
 m17:=oK
 m18:=oK
 m19:=by kernel_rfl}
end Go.Proofs
namespace Go.Proofs.YtgmnipfafmphaaaGreatDoor
set_option linter.unusedSimpArgs false
set_option linter.unusedVariables false
open Go.RowKit Go.Shelf
theorem Hx (w:World) (k:Nat) (os:Array Obj):Below w.heap.size w (Go.Sort.grow (w.drewN k) os):=by
 refine⟨rfl,rfl,rfl, ?_,fun i hi=> ?_⟩
 ·show w.heap.size<=(w.heap++os).size
  rw[Array.size_append];omega
 ·show(w.heap++os)[i]?=w.heap[i]?
  rw[Array.getElem?_append_left hi]
theorem JW {w:World} (h:vU w):Lib.TabIs Tryz.prog w "internal/strconv.uint64pow10" .u64 Lib.pow10Tab:=by
 obtain⟨u,f,hc⟩:=h (3,.u64,Lib.pow10Tab) (by unfold PL;first|exact SW (i:=0) rfl|exact SW (i:=3) rfl)|>.at (by unfold Lib.pow10Tab;simp)
 unfold Lib.TabIs World.var?
 rw[show Tryz.prog.globalNamed "internal/strconv.uint64pow10" =some 3 by kernel_rfl]
 simp only[SQ]
 rw[hc]
def l3 (n:Int):Option (List UInt8):=if -9223372036854775808<=n/\n<=9223372036854775807 then some (Lib.itoa n) else none
theorem pe (n:Int):∀ r,l3 n=some r->ac Tryz.prog 43 [.int .i64 n] (.str r):=by
 intro r D
 unfold l3 at D
 split at D
 ·rename_i h
  cases D
  refine⟨by kernel_rfl,fun w M vs hM hv S=> ?_⟩
  simp only[aC,aW] at hv
  obtain⟨u,R,rfl,rfl,rfl⟩:=hv
  refine Calls.mono (Any.strconv_Itoa Tryz.lays171 n h.1 h.2 w (JW S)) ?_
  rintro e w' ⟨rfl,k,os,rfl⟩
  exact⟨_,rfl,by simp[aW],Hx w k os⟩
 ·cases D
end Go.Proofs.YtgmnipfafmphaaaGreatDoor
namespace Go.Proofs
open Go.Proofs.YtgmnipfafmphaaaGreatDoor
open Go.Shelf
def Tryz.lays172_ren:Go.Shelf.Ren:=⟨fun|172=>59|244=>99|245=>100|247=>141|279=>142|280=>143|281=>144|282=>145|287=>169|316=>170|171=>43|205=>171|321=>189|322=>190|243=>85|246=>125|283=>156|284=>157|285=>158|286=>159|129=>177|317=>176|318=>178|319=>179|320=>180|337=>191|338=>192|n=>n,fun|9=>9|3=>3|75=>112|76=>113|4=>4|5=>5|167=>200|37=>41|0=>0|85=>201|2=>2|168=>203|53=>212|175=>224|46=>218|210=>228|127=>241|145=>244|143=>242|21=>21|171=>211|173=>215|212=>232|51=>233|20=>20|213=>234|232=>250|233=>251|80=>162|n=>n,fun|15=>1|16=>2|17=>3|18=>6|19=>7|n=>n⟩
theorem Tryz.lays172:Go.Proofs.Lays.n172 Tryz.prog Tryz.lays172_ren:={
 mixed:=oK
 f129:=Tryz.func177.trans (TX some oK)
 f171:=Tryz.func43.trans (TX some oK)
 f172:=Tryz.func59.trans (TX some oK)
 f205:=Tryz.func171.trans (TX some oK)
 f243:=Tryz.func85.trans (TX some oK)
 f244:=Tryz.func99.trans (TX some oK)
 f245:=Tryz.func100.trans (TX some oK)
 f246:=Tryz.func125.trans (TX some oK)
 f247:=Tryz.func141.trans (TX some oK)
 f279:=Tryz.func142.trans (TX some oK)
 f280:=Tryz.func143.trans (TX some oK)
 f281:=Tryz.func144.trans (TX some oK)
 f282:=Tryz.func145.trans (TX some oK)
 f283:=Tryz.func156.trans (TX some oK)
 f284:=Tryz.func157.trans (TX some oK)
 f285:=Tryz.func158.trans (TX some oK)
 f286:=Tryz.func159.trans (TX some oK)
 f287:=Tryz.func169.trans (TX some oK)
 f316:=Tryz.func170.trans (TX some oK)
 f317:=Tryz.func176.trans (TX some oK)
 f318:=Tryz.func178.trans (TX some oK)
 f319:=Tryz.func179.trans (TX some oK)
 f320:=Tryz.func180.trans (TX some oK)
 f321:=Tryz.func189.trans (TX some oK)
 f322:=Tryz.func190.trans (TX some oK)
 f337:=Tryz.func191.trans (TX some oK)
 f338:=Tryz.func192.trans (TX some oK)
 t0:=Tryz.underlying0
 a0:=Tryz.isAgg0
 z0:=Tryz.sizeOf0
 v0:=Tryz.zeroValue0
 t2:=Tryz.underlying2
 a2:=Tryz.isAgg2
 z2:=Tryz.sizeOf2
 v2:=Tryz.zeroValue2
 t3:=Tryz.underlying3
 a3:=Tryz.isAgg3
 z3:=Tryz.sizeOf3
 v3:=Tryz.zeroValue3
 t4:=Tryz.underlying4
 a4:=Tryz.isAgg4
 z4:=Tryz.sizeOf4
 v4:=Tryz.zeroValue4
 t5:=Tryz.underlying5
 a5:=Tryz.isAgg5
 z5:=Tryz.sizeOf5
 v5:=Tryz.zeroValue5
 t9:=Tryz.underlying9
 a9:=Tryz.isAgg9
 z9:=Tryz.sizeOf9
 v9:=Tryz.zeroValue9
 t20:=Tryz.underlying20
 a20:=Tryz.isAgg20
 z20:=Tryz.sizeOf20
 v20:=Tryz.zeroValue20
 t21:=Tryz.underlying21
 a21:=Tryz.isAgg21
 z21:=Tryz.sizeOf21
 v21:=Tryz.zeroValue21
 t37:=Tryz.underlying41
 a37:=Tryz.isAgg41
 z37:=Tryz.sizeOf41
 v37:=Tryz.zeroValue41
 t46:=Tryz.underlying218
 a46:=Tryz.isAgg218
 z46:=Tryz.sizeOf218
 v46:=Tryz.zeroValue218
 t51:=Tryz.underlying233
 a51:=Tryz.isAgg233
 z51:=Tryz.sizeOf233
 v51:=Tryz.zeroValue233
 t53:=Tryz.underlying212
 a53:=Tryz.isAgg212
 z53:=Tryz.sizeOf212
 v53:=Tryz.zeroValue212
 t75:=Tryz.underlying112
 a75:=Tryz.isAgg112
 z75:=Tryz.sizeOf112
 v75:=Tryz.zeroValue112
 t76:=Tryz.underlying113
 a76:=Tryz.isAgg113
 z76:=Tryz.sizeOf113
 v76:=Tryz.zeroValue113
 t85:=Tryz.underlying201
 a85:=Tryz.isAgg201
 z85:=Tryz.sizeOf201
 v85:=Tryz.zeroValue201
 t127:=Tryz.underlying241
 a127:=Tryz.isAgg241
 z127:=Tryz.sizeOf241
 v127:=Tryz.zeroValue241
 t143:=Tryz.underlying242
 a143:=Tryz.isAgg242
 z143:=Tryz.sizeOf242
 v143:=Tryz.zeroValue242
 t145:=Tryz.underlying244
 a145:=Tryz.isAgg244
 z145:=Tryz.sizeOf244
 v145:=Tryz.zeroValue244
 t167:=Tryz.underlying200
 a167:=Tryz.isAgg200
 z167:=Tryz.sizeOf200
 v167:=Tryz.zeroValue200
 t168:=Tryz.underlying203
 a168:=Tryz.isAgg203
 z168:=Tryz.sizeOf203
 v168:=Tryz.zeroValue203
 t171:=Tryz.underlying211
 a171:=Tryz.isAgg211
 z171:=Tryz.sizeOf211
 v171:=Tryz.zeroValue211
 t173:=Tryz.underlying215
 a173:=Tryz.isAgg215
 z173:=Tryz.sizeOf215
 v173:=Tryz.zeroValue215
 t175:=Tryz.underlying224
 a175:=Tryz.isAgg224
 z175:=Tryz.sizeOf224
 v175:=Tryz.zeroValue224
 t210:=Tryz.underlying228
 a210:=Tryz.isAgg228
 z210:=Tryz.sizeOf228
 v210:=Tryz.zeroValue228
 t212:=Tryz.underlying232
 a212:=Tryz.isAgg232
 z212:=Tryz.sizeOf232
 v212:=Tryz.zeroValue232
 t213:=Tryz.underlying234
 a213:=Tryz.isAgg234
 z213:=Tryz.sizeOf234
 t232:=Tryz.underlying250
 a232:=Tryz.isAgg250
 z232:=Tryz.sizeOf250
 v232:=Tryz.zeroValue250
 t233:=Tryz.underlying251
 a233:=Tryz.isAgg251
 z233:=Tryz.sizeOf251
 v233:=Tryz.zeroValue251
 g15:=oK
 g16:=oK
 g17:=oK
 g18:=oK
 g19:=by kernel_rfl}
end Go.Proofs
namespace Go.Proofs.YtgmnipfafmphaaaGreatDoor
set_option linter.unusedSimpArgs false
set_option linter.unusedVariables false
open Go.RowKit Go.Shelf
noncomputable def eE (s:List UInt8):Option Int:=if s.length<=18 then Lib.atoi s else none
theorem pg (s:List UInt8):∀ r,eE s=some r->ac Tryz.prog 59 [.str s] (.tup [.int .i64 r,.raw .nilIface]):=by
 intro r D
 unfold eE at D
 split at D
 ·rename_i h
  refine⟨by kernel_rfl,fun w M vs hM hv S=> ?_⟩
  simp only[aC,aW] at hv
  obtain⟨u,R,rfl,rfl,rfl⟩:=hv
  refine Calls.mono (Any.strconv_Atoi Tryz.lays172 ⟨s.toArray⟩ r (by simpa[ByteArray.size] using h) D w) ?_
  rintro e w' ⟨rfl,t,rfl⟩
  refine⟨_,rfl, ?_,⟨rfl,rfl,rfl,by rw[Lib.bytesWorld_size];omega,fun j hj=>Lib.bytesWorld_at_old w _ t j hj⟩⟩
  unfold aW
  refine⟨_,rfl, ?_⟩
  simp[aC,aW]
 ·cases D
end Go.Proofs.YtgmnipfafmphaaaGreatDoor
namespace Go.Proofs.YtgmnipfafmphaaaGreatDoor
set_option linter.unusedSimpArgs false
set_option linter.unusedVariables false
open Go.RowKit Go.Shelf Go.Lib
variable {P:Program} {g:Ren}
set_option maxHeartbeats 2000000 in
set_option maxRecDepth 100000 in
theorem Hw (L:SlLaysE0.n41 P g) (i0:TypeInfo) (z:Value) (size bytes:Nat) (hi:P.info? (g.t 23)=some i0) (G:i0.zero=some z) (K:i0.size=size) (d:i0.bytes=bytes) (Q:z.cells.size=size) (F:0<size) (h:∀ w,(Go.sizeOf (g.t 23)).run P w= .ok size w) (p:Addr) (c:Nat) (w:World):
  Calls P (g.f 41) #[.slice (some p) 0 c] w fun e w'=>∃ v',e= .returned v'/\w'.ownsRow w.heap.size (g.t 23) size v' 0 []/\Below w.heap.size w w':=by
 have mixed:=L.mixed;have t4:=L.t4;have a4:=L.a4;have z4:=L.z4;have v4:=L.v4;have t22:=L.t22;have a22:=L.a22;have z22:=L.z22;have v22:=L.v22
 have b:∀ (w:World) (a:Option Addr) (n c n' R:Nat),(binOp .eql (g.t 22) (.slice a n c) (.slice none n' R)).run P w= .ok (.bool a.isNone) w:=fun w a n c n' R=>Lib.run_eql_slice_nil w _ _ a n c n' R L.t22
 have i:∀ w,Sem.run P (underlying (g.t 22)) w= .ok (TypeDesc.slice (g.t 23)) w:=run_underlying t22
 obtain⟨_,_,l⟩:=L.f41
 go_enter l,SlBodyN.n41_ntmps g
 go_wp2_with (at_builtin;refine wpList_append_own _ rfl _ _ (g.t 22) rfl w.heap.size (g.t 23) i0 z size bytes t22 hi G K d Q F _ _ _ rfl (World.ownsRow_made w #[] 0 (SZ _) (TK _) oS) p 0 c [] rfl ?qc1 ?qc2 ?qc3 ?qc4 ?qc5 ?qc6 ?_)
 case qc1=>simp
 case qc2=>intro j u hj;simp at hj
 case qc3=>simp
 case qc4=>simp
 case qc5=>simp
 case qc6=>simp
 intro v' f X m q
 go_wp2
 go_ret
 exact⟨v',rfl,by simpa using X,((Below.refl _ w).alloc (SZ _) _).grown m oS (by intro k hk;simp[Value.ownBlock] at hk;omega)⟩
theorem ub (L:SlLaysE0.n41 P g) (i0:TypeInfo) (z:Value) (size bytes:Nat) (hi:P.info? (g.t 23)=some i0) (G:i0.zero=some z) (K:i0.size=size) (d:i0.bytes=bytes) (Q:z.cells.size=size) (F:0<size) (B:bytes<=1024) (h:∀ w,(Go.sizeOf (g.t 23)).run P w= .ok size w) (c:jW P (g.f 41)=true) (rows:List (List DV)) (W:∀ r∈rows,r.length=size) (I:rows.length<=137438953472):bu P (g.f 41) (([.slice rows]:List DV).map .d) (.own (.sl (g.t 23) (List.replicate size .sh)) (.slice rows)) (([.slice rows]:List DV).map .d):=by
 refine Mr c W (fun w M vs hM hv=> ?_)
 simp only[aC] at hv
 obtain⟨u,R,rfl,hu,rfl⟩:=hv
 have hS:ai w M (fun _=> .pointer none) (.d (.slice rows)) u:=by simpa only[ai] using hu
 obtain⟨ad,N,k,i,k1,k2,k3⟩:=xv (sz:=size) hS (f:=rows.map dR) rfl (by intro r D;obtain⟨q,hq,rfl⟩:=Tp.1 D;simp[dR,W q hq])
 simp only[TL] at i
 subst i
 rw[Ah] at k1
 have j:aC w M rows.flatten k:=an.toDVs _ _ _ k1 (qM _)
 have zero:∀ (a:Option Addr),rows=[]->Calls P (g.f 41) #[.slice a 0 N] w fun e w'=>∃ v k,e= .returned v/\w'.ownsRow w.heap.size (g.t 23) size v 0 k/\aC w M ([]:List (List DV)).flatten k/\(∀ u∈k,u.oneCell'=true)/\Below w.heap.size w w':=by
  intro a D
  subst D
  cases a with
  |none=>
   refine(AnyE.slices_Clone_nil L 0 N w).mono ?_
   rintro e w' ⟨rfl,rfl⟩
   exact⟨_,[],rfl,⟨by simp,.inl ⟨rfl,rfl⟩⟩,by simp[aC],by simp,Below.refl _ _⟩
  |some p=>
   refine(Hw L i0 z size bytes hi G K d Q F h p N w).mono ?_
   rintro e w' ⟨v',rfl,ho,hB⟩
   exact⟨v',[],rfl,ho,by simp[aC],by simp,hB⟩
 rcases k3 with⟨D,hn⟩|⟨b,o,rfl,s⟩
 ·have h8:rows=[]:=by simpa using D
  have:=zero ad h8
  subst h8
  exact this
 ·have ft:rows.length * bytes<=140737488355328:=by
   have:=Nat.mul_le_mul I B
   omega
  refine(AnyE.slices_Clone L i0 z size bytes hi G K d Q F h b o rows.length N k w (by rw[<-iY W];exact j.len) (by unfold maxLen;omega) ft s k2).mono ?_
  rintro e w' ⟨v',rfl,ho,_,hB⟩
  exact⟨v',k,rfl,ho,j,k2,hB⟩
end Go.Proofs.YtgmnipfafmphaaaGreatDoor
namespace Go.Proofs
open Go.Proofs.YtgmnipfafmphaaaGreatDoor
open Go.Shelf
def Tryz.lays41_126_ren:Go.Shelf.Ren:=⟨fun|41=>126|n=>n,fun|22=>35|23=>98|4=>4|n=>n,fun|n=>n⟩
theorem Tryz.lays41_126:Go.Proofs.SlLaysE0.n41 Tryz.prog Tryz.lays41_126_ren:={
 mixed:=oK
 f41:=⟨Tryz.f126.name,by decide,Tryz.func126.trans (TX some oK)⟩
 t4:=Tryz.underlying4
 a4:=Tryz.isAgg4
 z4:=Tryz.sizeOf4
 v4:=Tryz.zeroValue4
 t22:=Tryz.underlying35
 a22:=Tryz.isAgg35
 z22:=Tryz.sizeOf35
 v22:=Tryz.zeroValue35}
def Tryz.lays41_127_ren:Go.Shelf.Ren:=⟨fun|41=>127|n=>n,fun|22=>96|23=>34|4=>4|n=>n,fun|n=>n⟩
theorem Tryz.lays41_127:Go.Proofs.SlLaysE0.n41 Tryz.prog Tryz.lays41_127_ren:={
 mixed:=oK
 f41:=⟨Tryz.f127.name,by decide,Tryz.func127.trans (TX some oK)⟩
 t4:=Tryz.underlying4
 a4:=Tryz.isAgg4
 z4:=Tryz.sizeOf4
 v4:=Tryz.zeroValue4
 t22:=Tryz.underlying96
 a22:=Tryz.isAgg96
 z22:=Tryz.sizeOf96
 v22:=Tryz.zeroValue96}
def Tryz.lays41_128_ren:Go.Shelf.Ren:=⟨fun|41=>128|n=>n,fun|22=>34|23=>9|4=>4|n=>n,fun|n=>n⟩
theorem Tryz.lays41_128:Go.Proofs.SlLaysE0.n41 Tryz.prog Tryz.lays41_128_ren:={
 mixed:=oK
 f41:=⟨Tryz.f128.name,by decide,Tryz.func128.trans (TX some oK)⟩
 t4:=Tryz.underlying4
 a4:=Tryz.isAgg4
 z4:=Tryz.sizeOf4
 v4:=Tryz.zeroValue4
 t22:=Tryz.underlying34
 a22:=Tryz.isAgg34
 z22:=Tryz.sizeOf34
 v22:=Tryz.zeroValue34}
def Tryz.lays41_11_ren:Go.Shelf.Ren:=⟨fun|41=>11|n=>n,fun|22=>25|23=>37|4=>4|n=>n,fun|n=>n⟩
theorem Tryz.lays41_11:Go.Proofs.SlLaysE0.n41 Tryz.prog Tryz.lays41_11_ren:={
 mixed:=oK
 f41:=⟨Tryz.f11.name,by decide,Tryz.func11.trans (TX some oK)⟩
 t4:=Tryz.underlying4
 a4:=Tryz.isAgg4
 z4:=Tryz.sizeOf4
 v4:=Tryz.zeroValue4
 t22:=Tryz.underlying25
 a22:=Tryz.isAgg25
 z22:=Tryz.sizeOf25
 v22:=Tryz.zeroValue25}
end Go.Proofs
namespace Go.Proofs.YtgmnipfafmphaaaGreatDoor
open Go.RowKit Go.Shelf Go.Lib
def bd (l:List aj):Option (List aj):=if l.length<=137438953472 then some l else none
theorem eh (l:List aj):∀ r,bd l=some r->bu Tryz.prog 126 (([.slice (List.map az l)]:List DV).map .d) (.own (.sl 98 (List.replicate 1 .sh)) (.slice (List.map az r))) (([.slice (List.map az l)]:List DV).map .d):=by
 intro r D
 unfold bd at D
 split at D
 ·rename_i I
  cases D
  exact ub Tryz.lays41_126 (i0:=(Tryz.prog.info? 98).get oK) (z:=((Tryz.prog.info? 98).get oK).zero.get oK) (size:=1) (bytes:=((Tryz.prog.info? 98).get oK).bytes) (UD _).symm (UD _).symm oK rfl oK oD (UT oK) Tryz.sizeOf98 oK (List.map az l) (by intro r D;obtain⟨b,_,rfl⟩:=Tp.1 D;rfl) (by simpa using I)
 ·cases D
def eY (l:List (List (List UInt8))):Option (List (List (List UInt8))):=if l.length<=137438953472 then some l else none
theorem kL (l:List (List (List UInt8))):∀ r,eY l=some r->bu Tryz.prog 127 (([.slice (List.map (fA cX) l)]:List DV).map .d) (.own (.sl 34 (List.replicate 1 .sh)) (.slice (List.map (fA cX) r))) (([.slice (List.map (fA cX) l)]:List DV).map .d):=by
 intro r D
 unfold eY at D
 split at D
 ·rename_i I
  cases D
  exact ub Tryz.lays41_127 (i0:=(Tryz.prog.info? 34).get oK) (z:=((Tryz.prog.info? 34).get oK).zero.get oK) (size:=1) (bytes:=((Tryz.prog.info? 34).get oK).bytes) (UD _).symm (UD _).symm oK rfl oK oD (UT oK) Tryz.sizeOf34 oK (List.map (fA cX) l) (by intro r D;obtain⟨b,_,rfl⟩:=Tp.1 D;rfl) (by simpa using I)
 ·cases D
def fs (l:List (List UInt8)):Option (List (List UInt8)):=if l.length<=137438953472 then some l else none
theorem l1 (l:List (List UInt8)):∀ r,fs l=some r->bu Tryz.prog 128 (([.slice (List.map cX l)]:List DV).map .d) (.own (.sl 9 (List.replicate 1 .sh)) (.slice (List.map cX r))) (([.slice (List.map cX l)]:List DV).map .d):=by
 intro r D
 unfold fs at D
 split at D
 ·rename_i I
  cases D
  exact ub Tryz.lays41_128 (i0:=(Tryz.prog.info? 9).get oK) (z:=((Tryz.prog.info? 9).get oK).zero.get oK) (size:=1) (bytes:=((Tryz.prog.info? 9).get oK).bytes) (UD _).symm (UD _).symm oK rfl oK oD (UT oK) Tryz.sizeOf9 oK (List.map cX l) (by intro r D;obtain⟨b,_,rfl⟩:=Tp.1 D;rfl) (by simpa using I)
 ·cases D
def aL (l:List aa):Option (List aa):=if l.length<=137438953472 then some l else none
theorem ei (l:List aa):∀ r,aL l=some r->bu Tryz.prog 11 (([.slice (List.map ae l)]:List DV).map .d) (.own (.sl 37 (List.replicate 2 .sh)) (.slice (List.map ae r))) (([.slice (List.map ae l)]:List DV).map .d):=by
 intro r D
 unfold aL at D
 split at D
 ·rename_i I
  cases D
  exact ub Tryz.lays41_11 (i0:=(Tryz.prog.info? 37).get oK) (z:=((Tryz.prog.info? 37).get oK).zero.get oK) (size:=2) (bytes:=((Tryz.prog.info? 37).get oK).bytes) (UD _).symm (UD _).symm oK rfl oK oD (UT oK) Tryz.sizeOf37 oK (List.map ae l) (by intro r D;obtain⟨b,_,rfl⟩:=Tp.1 D;rfl) (by simpa using I)
 ·cases D
end Go.Proofs.YtgmnipfafmphaaaGreatDoor
namespace Go.Proofs.YtgmnipfafmphaaaGreatDoor
def pE:SC:=(.sq [.k 31 .lss 30 29] (.seq (.cond (.t 31) .skip (.exit 2)) (.seq (.block 3 (.sq [.v 32 30,.y 33 1 28 30,.l 34 33,.v 5 32,.v 6 34] (.regE [.f 35 1 1,.r 36 (.ld1 (.t 35)),.v 37 3,.y 38 1 36 37,.f 39 0 38,.r 40 (.ld1 (.t 39)),.v 41 5,.v 42 6,.q 43 (.f 128) [.t 42] [(0,35,.fld 1 (.t 1)),(1,36,.ld1 (.t 35)),(2,37,.mv (.t 3)),(3,38,.idx 1 (.t 36) (.t 37)),(4,39,.fld 0 (.t 38)),(5,40,.ld1 (.t 39)),(6,41,.mv (.t 5))],.y 44 1 40 41,.x 0 (.st 1 (.t 44) (.t 43)) []]))) (.reg [.j 45 .add 30 1,.v 30 45]))))
def pF:SC:= .block 2 (.loop pE)
def pG:SC:=(.sq [.k 15 .lss 14 13] (.seq (.cond (.t 15) .skip (.exit 0)) (.seq (.block 1 (.sq [.v 16 14,.y 17 1 12 14,.a 18 1 17,.w 4 (.boxM (.c (.agg [.nils]))),.v 3 16,.s 1 4 18] (.seq (.regE [.f 19 1 1,.r 20 (.ld1 (.t 19)),.v 21 3,.f 22 0 4,.r 23 (.ld1 (.t 22)),.q 24 (.f 127) [.t 23] [(0,19,.fld 1 (.t 1)),(1,20,.ld1 (.t 19)),(2,21,.mv (.t 3))],.y 25 1 20 21,.f 26 0 25,.x 0 (.st 1 (.t 26) (.t 24)) []]) (.sq [.f 27 0 4,.l 28 27,.h 29 28,.r 30 (.mv (.i 0))] pF)))) (.reg [.j 46 .add 14 1,.v 14 46]))))
def pH:SC:= .block 0 (.loop pG)
def uy:SC:=(.sq [.w 1 (.boxM (.t 0)),.w 2 (.boxM (.c (.agg [.d (.str []),.nils])))] (.sq [.f 7 1 1,.l 8 7,.p (some 9) (.f 126) [.t 8],.f 10 1 1,.s 1 10 9] (.seq (.sq [.f 11 1 1,.l 12 11,.h 13 12,.r 14 (.mv (.i 0))] pH) (.sq [.a 47 2 1,.s 2 2 47] .ret))))
theorem zY:fits Tryz.prog 86 Tryz.f86 uy [.cell 2 2] 1=true:=oK
end Go.Proofs.YtgmnipfafmphaaaGreatDoor
namespace Go.Proofs.YtgmnipfafmphaaaGreatDoor
open Go.RowKit
set_option linter.unusedSimpArgs false
set_option linter.unusedVariables false
def Mt:List bj:=[.sl 9 [.sh]]
def M2:List bj:=[.sl 34 Mt]
def SF:List bj:=[.sh,.sl 98 M2]
def ph (x:aa):Prop:=x.fElements.length<=137438953472/\∀ e∈x.fElements,e.fRepeats.length<=137438953472/\∀ p∈e.fRepeats,p.length<=137438953472
instance (x:aa):Decidable (ph x):=by unfold ph;infer_instance
def l4 (x:aa):Option aa:=if ph x then some x else none
theorem Ox (y:aj):bi [.sh] (az y)=[.d (.slice (List.map (fA cX) y.fRepeats))]:=rfl
theorem Qx (y:aj):bi M2 (az y)=[.own (.sl 34 Mt) (.slice (List.map (fA cX) y.fRepeats))]:=rfl
theorem Oy (y:List (List UInt8)):bi [.sh] (fA cX y)=[.d (.slice (List.map cX y))]:=rfl
theorem Qy (y:List (List UInt8)):bi Mt (fA cX y)=[.own (.sl 9 [.sh]) (.slice (List.map cX y))]:=rfl
set_option maxRecDepth 100000
set_option maxHeartbeats 4000000
theorem BI (x:aa) (hx:ph x):bu Tryz.prog 86 (([.agg (ae x)]:List DV).map .d) (.agg (bi SF (ae x))) (([.agg (ae x)]:List DV).map .d):=by
 obtain⟨tag,els⟩:=x
 obtain⟨s9,u3⟩:=hx
 dsimp only at s9 u3
 refine yL (N:=48) (k:=1) Tryz.func86 zY oK rfl rfl ?_
 unfold uy
 repeat'(first|(with_reducible apply R_);exact oV;(focus exact eh els els (by unfold bd;rw[U4 s9]));(focus rfl);focus(intro _;rfl)|(with_reducible first|refine cC ?_|refine cv ?_|refine fl ?_|refine jH ?_|refine D4 ?_|refine bn ?_|refine b5 ?_|refine d9 ?_|refine cN ?_|refine cw ?_|refine cE ?_|refine cO ?_|refine dF ?_|refine bD ?_|refine cR ?_|refine od ?_|refine Ea ?_|refine Eb ?_|refine D9 ?_|refine D_ ?_|refine dT ?_)|(with_reducible apply sH);decide|(with_reducible apply iC);exact oV;focus(first|exact trivial|omega)|(with_reducible apply uB);exact oV;focus(first|exact trivial|omega)|(with_reducible apply B2);exact oV;(focus(first|exact trivial|omega));focus exact bV|fail)
 ·unfold pH pG
  refine bn ?_
  refine O9 (α:=Unit) (q:=0) (c:=15) (k:=14) (n:=13) (t:=46) (fun i _=>st [(1,.ref 1 0),(2,.ref 2 0),(12,.vec 9),(13,.d (.int .i64 (els.length:Int))),(14,.d (.int .i64 (i:Int))),(48,.d (.agg (ae ⟨tag,els⟩)))]
   [(1,.box [.d (.str tag),.vec 9]),(2,.box [.d (.str []),.nils]),(9,.vec 98 1 (xK M2 [.sh] az els i))]) (fun _ _=>True) els.length () oM (fun _ _=>rfl) (fun _ _=>rfl) ?h0 trivial ?body ?done
  case h0=>exact D5 (by simp only[Ao,push_cast,seval,and_self]) (by simp only[Ap,push_cast,seval,Dd,and_self])
  case body=>
   intro i _ hi _
   obtain⟨y,hy⟩:∃ y,els[i]?=some y:=⟨els[i],S0 hi⟩
   have h5:y∈els:=SW hy
   obtain⟨b,m⟩:=u3 y h5
   have J:(au M2 az (els.take i)).length=i:=by rw[cU];simp;omega
   have e0:xK M2 [.sh] az els i=jI (au M2 az (els.take i)) [.d (.slice (List.map (fA cX) y.fRepeats))] (au [.sh] az (els.drop (i+1))):=by
    rw[De hy,Ox]
   dsimp only
   rw[e0]
   repeat'(first|(with_reducible apply LO);exact oV;exact oV;exact oV;(focus exact J);focus rfl|(with_reducible apply Qf);exact oV;exact oV;(focus exact J);exact oV;(focus rfl);focus simp|(with_reducible apply Ri);exact oV;(focus exact kL y.fRepeats y.fRepeats (by unfold eY;rw[U4 b]));(focus rfl);(focus(intro _;rfl));focus((repeat'(first|exact bV|(with_reducible apply cn);exact oV;(focus exact trivial);focus(simp only[push_cast,seval])|fail));done)|(with_reducible apply LP);exact oV;exact oV;exact oV;(focus exact J);(focus simp);exact oV;focus exact bV|(with_reducible first|refine cC ?_|refine cv ?_|refine fl ?_|refine jH ?_|refine D4 ?_|refine bn ?_|refine b5 ?_|refine d9 ?_|refine cN ?_|refine cw ?_|refine cE ?_|refine cO ?_|refine dF ?_|refine bD ?_|refine cR ?_|refine od ?_|refine Ea ?_|refine Eb ?_|refine D9 ?_|refine D_ ?_|refine dT ?_)|(with_reducible apply sH);decide|(with_reducible apply iC);exact oV;focus(first|exact trivial|omega)|(with_reducible apply uB);exact oV;focus(first|exact trivial|omega)|(with_reducible apply B2);exact oV;(focus(first|exact trivial|omega));focus exact bV|fail)
   ·unfold pF pE
    refine bn ?_
    refine O9 (α:=Unit) (q:=2) (c:=31) (k:=30) (n:=29) (t:=45) (fun k _=>st [(1,.ref 1 0),(2,.ref 2 0),(3,.d (.int .i64 (i:Int))),(4,.ref 4 0),(12,.vec 9),(13,.d (.int .i64 (els.length:Int))),(14,.d (.int .i64 (i:Int))),(28,.d (.slice (List.map (fA cX) y.fRepeats))),(29,.d (.int .i64 (y.fRepeats.length:Int))),(30,.d (.int .i64 (k:Int))),(48,.d (.agg (ae ⟨tag,els⟩)))]
     [(1,.box [.d (.str tag),.vec 9]),(2,.box [.d (.str []),.nils]),(9,.vec 98 1 (jI (au M2 az (els.take i)) [.vec 24] (au [.sh] az (els.drop (i+1))))),(24,.vec 34 1 (xK Mt [.sh] (fA cX) y.fRepeats k))]) (fun _ _=>True) y.fRepeats.length () oM (fun _ _=>rfl) (fun _ _=>rfl) ?g0 trivial ?gbody ?gdone
    case g0=>exact D5 (by simp only[Ao,push_cast,seval,and_self]) (by simp only[Ap,push_cast,seval,Dd,List.replicate,and_self])
    case gbody=>
     intro k _ hk _
     obtain⟨z,hz⟩:∃ z,y.fRepeats[k]?=some z:=⟨y.fRepeats[k],S0 hk⟩
     have K:=m z (SW hz)
     have w:(au Mt (fA cX) (y.fRepeats.take k)).length=k:=by rw[cU];simp;omega
     have e1:xK Mt [.sh] (fA cX) y.fRepeats k=jI (au Mt (fA cX) (y.fRepeats.take k)) [.d (.slice (List.map cX z))] (au [.sh] (fA cX) (y.fRepeats.drop (k+1))):=by
      rw[De hz,Oy]
     have e2:xK Mt [.sh] (fA cX) y.fRepeats (k+1)=jI (au Mt (fA cX) (y.fRepeats.take k)) [.own (.sl 9 [.sh]) (.slice (List.map cX z))] (au [.sh] (fA cX) (y.fRepeats.drop (k+1))):=by
      rw[<-Df hz,Qy]
     dsimp only
     rw[e1]
     repeat'(first|(with_reducible apply LO);exact oV;exact oV;exact oV;(focus(first|exact J|exact w));focus rfl|(with_reducible apply Qg);exact oV;exact oV;(focus(intro _;rfl));focus exact LR hz|(with_reducible apply Rh);exact oV;exact oV;(focus exact J);exact oV;focus rfl|(with_reducible apply Ri);exact oV;(focus exact l1 z z (by unfold fs;rw[U4 K]));(focus rfl);(focus(intro _;rfl));focus((repeat'(first|exact bV|(with_reducible apply LQ);exact oV;exact oV;exact oV;(focus exact J);(focus rfl);focus(simp only[push_cast,seval];(try rfl);done)|(with_reducible apply N1);exact oV;exact oV;(focus exact J);exact oV;(focus rfl);focus(simp only[push_cast,seval];(try rfl);done)|(with_reducible apply cn);exact oV;(focus exact trivial);focus(simp only[push_cast,seval])|fail));done)|(with_reducible apply LP);exact oV;exact oV;exact oV;(focus exact w);(focus simp);exact oV;focus exact bV|(with_reducible first|refine cC ?_|refine cv ?_|refine fl ?_|refine jH ?_|refine D4 ?_|refine bn ?_|refine b5 ?_|refine d9 ?_|refine cN ?_|refine cw ?_|refine cE ?_|refine cO ?_|refine dF ?_|refine bD ?_|refine cR ?_|refine od ?_|refine Ea ?_|refine Eb ?_|refine D9 ?_|refine D_ ?_|refine dT ?_)|(with_reducible apply sH);decide|(with_reducible apply iC);exact oV;focus(first|exact trivial|omega)|(with_reducible apply uB);exact oV;focus(first|exact trivial|omega)|(with_reducible apply B2);exact oV;(focus(first|exact trivial|omega));focus exact bV|fail)
     ·apply O8 ()
      (focus(simp only[push_cast,seval]))
      rotate_left
      (focus exact trivial)
      refine bm.trans (A3 (id:=24) (f:=43) (off:=0) (ms':=[.sh]) (A:=cX) (y:=z) (k:=k) (by(simp only[push_cast,seval];(try rfl);done)) (by(simp only[push_cast,seval];(try rfl);done)) w.symm (by(simp only[push_cast,seval];(try rfl);done)) iM rfl (fun _=>rfl) oD (by(simp only[push_cast,seval];(try rfl);done))) ?_
      exact D5 (by simp only[Ao,push_cast,seval,and_self]) (by simp only[Ap,push_cast,seval,e2,and_self])
    case gdone=>
     intro _ _
     refine bD ?_
     have e3:xK M2 [.sh] az els (i+1)=jI (au M2 az (els.take i)) [.own (.sl 34 Mt) (.slice (List.map (fA cX) y.fRepeats))] (au [.sh] az (els.drop (i+1))):=by
      rw[<-Df hy,Qx]
     dsimp only
     rw[FW]
     apply O8 ()
     (focus(simp only[push_cast,seval]))
     rotate_left
     (focus exact trivial)
     refine bm.trans (A3 (id:=9) (f:=24) (off:=0) (ms':=Mt) (A:=fA cX) (y:=y.fRepeats) (k:=i) (by(simp only[push_cast,seval];(try rfl);done)) (by(simp only[push_cast,seval];(try rfl);done)) J.symm (by(simp only[push_cast,seval];(try rfl);done)) iM rfl (fun _=>rfl) oD (by(simp only[push_cast,seval];(try rfl);done))) ?_
     exact D5 (by simp only[Ao,push_cast,seval,and_self]) (by simp only[Ap,push_cast,seval,e3,and_self])
  case done=>
   intro _ _
   dsimp only
   rw[FW]
   repeat'(first|(with_reducible first|refine cC ?_|refine cv ?_|refine fl ?_|refine jH ?_|refine D4 ?_|refine bn ?_|refine b5 ?_|refine d9 ?_|refine cN ?_|refine cw ?_|refine cE ?_|refine cO ?_|refine dF ?_|refine bD ?_|refine cR ?_|refine od ?_|refine Ea ?_|refine Eb ?_|refine D9 ?_|refine D_ ?_|refine dT ?_)|(with_reducible apply sH);decide|(with_reducible apply iC);exact oV;focus(first|exact trivial|omega)|(with_reducible apply uB);exact oV;focus(first|exact trivial|omega)|(with_reducible apply B2);exact oV;(focus(first|exact trivial|omega));focus exact bV|fail)
   ·apply L3 (r0:=(⟨tag,els⟩:aa)) (r:=⟨tag,els⟩) (H:=ae) rfl (bm.refl _)
    (focus(simp only[push_cast,seval];rfl))
    (focus(simp only[push_cast,seval];rfl))
    (focus(simp only[push_cast,seval];(try rfl);done))
    (focus exact lb.data rfl (Ir (l:=els) (H:=az) (ms:=M2) (by(simp only[push_cast,seval];(try rfl);done)) rfl (fun _=>rfl) oS lb.nil))
    (focus rfl)
theorem x9 (x:aa):∀ r,l4 x=some r->bu Tryz.prog 86 (([.agg (ae x)]:List DV).map .d) (.agg (bi SF (ae r))) (([.agg (ae x)]:List DV).map .d):=by
 intro r D
 unfold l4 at D
 split at D
 ·rename_i hx;cases D;exact BI x hx
 ·cases D
theorem zl (x:aa):∀ r,l4 x=some r->ac Tryz.prog 86 [.agg (ae x)] (.agg (ae r)):=fun r D=>
 ((x9 x r D).weak (ms':=[.sh,.sh]) rfl rfl).pure rfl
end Go.Proofs.YtgmnipfafmphaaaGreatDoor
namespace Go.Proofs
open Go.Proofs.YtgmnipfafmphaaaGreatDoor
open Go.Shelf
def Tryz.lays32_ren:Go.Shelf.Ren:=⟨fun|32=>167|49=>188|n=>n,fun|30=>41|21=>21|3=>3|0=>0|5=>5|4=>4|33=>207|66=>245|25=>218|69=>248|68=>247|n=>n,fun|2=>4|3=>5|n=>n⟩
theorem Tryz.lays32:Go.Proofs.Lays7.n32 Tryz.prog Tryz.lays32_ren:={
 mixed:=oK
 f32:=Tryz.func167.trans (TX some oK)
 f49:=Tryz.func188.trans (TX some oK)
 t0:=Tryz.underlying0
 a0:=Tryz.isAgg0
 z0:=Tryz.sizeOf0
 v0:=Tryz.zeroValue0
 i0:=oK
 t3:=Tryz.underlying3
 a3:=Tryz.isAgg3
 z3:=Tryz.sizeOf3
 v3:=Tryz.zeroValue3
 i3:=oK
 t4:=Tryz.underlying4
 a4:=Tryz.isAgg4
 z4:=Tryz.sizeOf4
 v4:=Tryz.zeroValue4
 i4:=oK
 t5:=Tryz.underlying5
 a5:=Tryz.isAgg5
 z5:=Tryz.sizeOf5
 v5:=Tryz.zeroValue5
 i5:=oK
 t21:=Tryz.underlying21
 a21:=Tryz.isAgg21
 z21:=Tryz.sizeOf21
 v21:=Tryz.zeroValue21
 i21:=oK
 t25:=Tryz.underlying218
 a25:=Tryz.isAgg218
 z25:=Tryz.sizeOf218
 v25:=Tryz.zeroValue218
 i25:=oK
 t30:=Tryz.underlying41
 a30:=Tryz.isAgg41
 z30:=Tryz.sizeOf41
 v30:=Tryz.zeroValue41
 i30:=oK
 t33:=Tryz.underlying207
 a33:=Tryz.isAgg207
 z33:=Tryz.sizeOf207
 v33:=Tryz.zeroValue207
 i33:=oK
 t66:=Tryz.underlying245
 a66:=Tryz.isAgg245
 z66:=Tryz.sizeOf245
 t68:=Tryz.underlying247
 a68:=Tryz.isAgg247
 z68:=Tryz.sizeOf247
 v68:=Tryz.zeroValue247
 i68:=oK
 t69:=Tryz.underlying248
 a69:=Tryz.isAgg248
 z69:=Tryz.sizeOf248
 v69:=Tryz.zeroValue248
 i69:=oK
 g2:=oK
 g3:=by kernel_rfl}
end Go.Proofs
namespace Go.Proofs.YtgmnipfafmphaaaGreatDoor
set_option maxRecDepth 1000000
set_option maxHeartbeats 8000000
set_option linter.unusedSimpArgs false
set_option linter.unusedVariables false
open Go.RowKit Go.Shelf Go.Lib
variable {b off:Nat} {s:ByteArray} {w:World}
def Ko (s:ByteArray) (b off:Nat) (w:World):Prop:=∀ j,j<s.size->w.cell? ⟨b,off+j,none⟩=some (.int .u8 (s.get! j).toNat)
theorem Ko.below {w':World} (h:Ko s b off w) (hb:Below w.heap.size w w'):Ko s b off w':=
 fun j hj=>by rw[hb.cell (block_lt_of_cell (h j hj))];exact h j hj
theorem Ko.tail (h:Ko s b off w) (n:Nat):Ko (s.extract n s.size) b (off+n) w:=
 fun j hj=>by
  rw[Lib.tail_size] at hj
  rw[Lib.tail_get!,U7]
  exact h (n+j) oM
theorem Mk (s:ByteArray) (pos:Nat) (h:pos<s.size):Lib.decodeGo (s.extract pos s.size)=Utf8.decode s pos:=by
 unfold Lib.decodeGo
 rw[if_neg (by rw[Lib.tail_size];omega),Lib.tail_decode,Ul]
theorem x7 (n:Int) (w:World):Calls Tryz.prog 164 #[.int .i64 n] w fun e w'=>e= .returned (.bool (decide (8<n)))/\w'=w:=by
 have t3:=Tryz.underlying3;have a3:=Tryz.isAgg3;have z3:=Tryz.sizeOf3;have v3:=Tryz.zeroValue3
 have t4:=Tryz.underlying4;have a4:=Tryz.isAgg4;have z4:=Tryz.sizeOf4;have v4:=Tryz.zeroValue4
 go_enter Tryz.func164,Tryz.ntmps164
 go_wp2
 go_ret
 exact⟨rfl,rfl⟩
theorem Ml:∀ w,(zeroValue 220).run Tryz.prog w= .ok (.agg (Array.replicate 256 (.bool false))) w:=(zero_of_info (P:=Tryz.prog) (t:=220) (n:=256) oK).1
theorem Gb:(Tryz.prog.info? 220).map (·.size)=some 256:=oK
theorem Oo (c:ByteArray) (w:World) (hs:c.size<4294967281) (d:∀ (j:Nat) b,c.data.toList[j]?=some b->b.toNat<128):
  Calls Tryz.prog 165 #[.string c] w fun e w'=>e= .returned (.tuple #[.agg (Lib.setCells c.data.toList),.bool true])/\w'=w.alloc (.cells (Lib.setCells c.data.toList) 220):=by
 have J:Aside (∀ (j:Nat) b,c.data.toList[j]?=some b->b.toNat<128):=d
 clear d
 have h:=Ml
 have a:=Gb
 have t3:=Tryz.underlying3;have a3:=Tryz.isAgg3;have z3:=Tryz.sizeOf3;have v3:=Tryz.zeroValue3
 have t4:=Tryz.underlying4;have a4:=Tryz.isAgg4;have z4:=Tryz.sizeOf4;have v4:=Tryz.zeroValue4
 have t5:=Tryz.underlying5;have a5:=Tryz.isAgg5;have z5:=Tryz.sizeOf5;have v5:=Tryz.zeroValue5
 have t9:=Tryz.underlying9;have a9:=Tryz.isAgg9;have z9:=Tryz.sizeOf9;have v9:=Tryz.zeroValue9
 have t116:=Tryz.underlying220
 go_enter Tryz.func165,Tryz.ntmps165
 go_wp2
 rw[<-Lib.setCells_nil]
 go_loopg [4] c.size (fun g s4 E=>∃ i:Nat,i+g=c.size/\s4= .int .i64 i/\E=w.alloc (.cells (Lib.setCells (c.data.toList.take i)) 220))
 case atStart=>exact⟨0,by omega,rfl,rfl⟩
 case round=>
  obtain⟨i,Q,rfl,rfl⟩:=hrel
  cases gk with
  |zero=>
   obtain rfl:i=c.size:=by omega
   have l:¬ ((c.size:Int)<(c.size:Int)):=by omega
   rw[show c.data.toList.take c.size=c.data.toList from Tt (by rw[<-Lib.size_eq];exact SZ _)]
   have k:=run_loadVar_new (P:=Tryz.prog) w 220 (Lib.setCells c.data.toList) 256 4 t116 (by rw[Lib.setCells_size];exact a)
   have F:=Lib.setCells_size c.data.toList
   have y:=run_loadCellsFrom_new (P:=Tryz.prog) w 220 (Lib.setCells c.data.toList) 256 F
   have o:=run_storeCells_new (P:=Tryz.prog) w 220 (Lib.setCells c.data.toList) (Lib.setCells c.data.toList) (by rw[F];exact a) rfl (Lib.setCells_one _)
   go_wp2
   simp[go_sem, -Tryz.isAgg220, -Tryz.sizeOf220]
   simp only[Tryz.isAgg220,Tryz.sizeOf220,Result.andThen,↓reduceIte,y]
   rw[Oper.upon_value]
   go_wp2
   (try simp only[Exit.inBlock,Exit.then])
   refine bodyPost_ret (v:= .tuple #[.agg (Lib.setCells c.data.toList),.bool true]) ?_ rfl ⟨rfl,rfl⟩
   rw[results_cell_tmp rfl]
   simp[asAddr,Result.andThen,k]
  |succ g=>
   have hi:i<c.size:=by omega
   have l:(i:Int)<(c.size:Int):=by omega
   obtain⟨x,hx⟩:∃ x:UInt8,c[i]'hi=x:=⟨_,rfl⟩
   have r6:c.data.toList[i]?=some x:=by rw[<-hx];exact Lib.data_getElem? c i hi
   have p:¬ ((128:Int)<=(x.toNat:Int)):=by have:=J.out i x r6;omega
   have f:(x.toNat:Int)<256:=by have:=J.out i x r6;omega
   have L:=Lib.setCells_at (c.data.toList.take i) x
   have Y:Aside (c.data.toList[i]?=some x):=r6
   clear r6
   go_wp2
   go_roundg g
   case measure=>omega
   case rel=>exact⟨i+1,by omega,by first|rfl|simp,by rw[List.take_add_one,Y.out];simp only[Option.toList];rw[Lib.setCells_snoc]⟩
theorem Mm (b:Nat) (x:UInt8) (v:Bool) (w:World) (hc:w.cell? ⟨b,x.toNat,none⟩=some (.bool v)):
  Calls Tryz.prog 166 #[.pointer (some ⟨b,0,none⟩),.int .u8 x.toNat] w fun e w'=>e= .returned (.bool v)/\w'=w:=by
 have f:(x.toNat:Int)<256:=by have:=UInt8.toNat_lt x;omega
 have t4:=Tryz.underlying4;have a4:=Tryz.isAgg4;have z4:=Tryz.sizeOf4;have v4:=Tryz.zeroValue4
 have t5:=Tryz.underlying5;have a5:=Tryz.isAgg5;have z5:=Tryz.sizeOf5;have v5:=Tryz.zeroValue5
 have t116:=Tryz.underlying220
 go_enter Tryz.func166,Tryz.ntmps166
 go_wp2
 go_ret
 exact⟨rfl,rfl⟩
theorem Oq (s:ByteArray) (b off N:Nat) (c:ByteArray) (w:World) (z:s.size<=N) (hB:Ko s b off w) (h2:2<=c.size) (h8:8<s.size) (hs:s.size<4294967281) (U:c.size<4294967281) (d:∀ (j:Nat) b,c.data.toList[j]?=some b->b.toNat<128):
  Calls Tryz.prog 138 #[.slice (some ⟨b,off,none⟩) s.size N,.string c] w fun e w'=>e= .returned (.int .i64 (Lib.indexAny s.data.toList c.data.toList))/\Below w.heap.size w w':=by
 have hM:=Oo c w U d
 clear d
 have I:c.toList.isEmpty=false:=by
  rw[Lib.toList_data]
  cases h:c.data.toList with
  |nil=>have:=Lib.size_eq c;rw[h,S3] at this;omega
  |cons _ _=>rfl
 have C:((s.size:Int)==1)=false:=beq_eq_false_iff_ne.2 oM
 have r:((c.size:Int)==1)=false:=beq_eq_false_iff_ne.2 oM
 have O:decide ((8:Int)<(s.size:Int))=true:=UU oM
 have a:=Gb
 have o:(storeCells ⟨w.heap.size+1,0,none⟩ (Lib.setCells c.data.toList).toList 0).run Tryz.prog ((w.alloc (.cells (Lib.setCells c.data.toList) 220)).alloc (.cells Tryz.zeroCells220 220))= .ok () ((w.alloc (.cells (Lib.setCells c.data.toList) 220)).alloc (.cells (Lib.setCells c.data.toList) 220)):=by
  have:=run_storeCells_new (P:=Tryz.prog) (w.alloc (.cells (Lib.setCells c.data.toList) 220)) 220 Tryz.zeroCells220 (Lib.setCells c.data.toList) (by rw[Lib.setCells_size];exact a) (by rw[Lib.setCells_size];kernel_rfl) (Lib.setCells_one _)
  simpa using this
 have F:=Lib.setCells_size c.data.toList
 have f:∀ x:UInt8,((w.alloc (.cells (Lib.setCells c.data.toList) 220)).alloc (.cells (Lib.setCells c.data.toList) 220)).cell? ⟨w.heap.size+1,x.toNat,none⟩=some (.bool (c.data.toList.contains x)):=fun x=>by
  rw[World.cell?_alloc_at _ _ _ _ oS,Lib.setCells_at]
 have p:Aside (∀ x:UInt8,((w.alloc (.cells (Lib.setCells c.data.toList) 220)).alloc (.cells (Lib.setCells c.data.toList) 220)).cell? ⟨w.heap.size+1,x.toNat,none⟩=some (.bool (c.data.toList.contains x))):=f
 clear f
 have k:Below w.heap.size w ((w.alloc (.cells (Lib.setCells c.data.toList) 220)).alloc (.cells (Lib.setCells c.data.toList) 220)):=((Below.refl _ _).alloc (SZ _) _).alloc oS _
 have HB:Aside (Ko s b off ((w.alloc (.cells (Lib.setCells c.data.toList) 220)).alloc (.cells (Lib.setCells c.data.toList) 220))):=hB.below k
 clear hB
 have t3:=Tryz.underlying3;have a3:=Tryz.isAgg3;have z3:=Tryz.sizeOf3;have v3:=Tryz.zeroValue3
 have t4:=Tryz.underlying4;have a4:=Tryz.isAgg4;have z4:=Tryz.sizeOf4;have v4:=Tryz.zeroValue4
 have t5:=Tryz.underlying5;have a5:=Tryz.isAgg5;have z5:=Tryz.sizeOf5;have v5:=Tryz.zeroValue5
 have t9:=Tryz.underlying9;have a9:=Tryz.isAgg9;have z9:=Tryz.sizeOf9;have v9:=Tryz.zeroValue9
 have t21:=Tryz.underlying21;have a21:=Tryz.isAgg21;have z21:=Tryz.sizeOf21;have v21:=Tryz.zeroValue21
 have t22:=Tryz.underlying41;have a22:=Tryz.isAgg41;have z22:=Tryz.sizeOf41;have v22:=Tryz.zeroValue41
 have t116:=Tryz.underlying220
 have e1:∀ args w,(callFunc 164 args).run Tryz.prog w= .ok (.enter 164 args) w:=enters_of Tryz.func164 oK rfl
 have e2:∀ args w,(callFunc 165 args).run Tryz.prog w= .ok (.enter 165 args) w:=enters_of Tryz.func165 oK rfl
 have e3:∀ args w,(callFunc 166 args).run Tryz.prog w= .ok (.enter 166 args) w:=enters_of Tryz.func166 oK rfl
 go_enter Tryz.func138,Tryz.ntmps138
 go_wp2_with (first
  |(go_at_fn 164;refine(x7 _ _).mono ?_;rintro e w' ⟨rfl,G⟩;rw[G,O])
  |(go_at_fn 165;refine hM.mono ?_;rintro e w' ⟨rfl,G⟩;rw[G]))
 clear hM o
 go_loopg [62] s.size (fun g s8 E=>∃ i:Nat,i+g=s.size/\s8= .int .i64 i/\E=((w.alloc (.cells (Lib.setCells c.data.toList) 220)).alloc (.cells (Lib.setCells c.data.toList) 220))/\Lib.NoAny s.data.toList c.data.toList i)
 case atStart=>exact⟨0,by omega,rfl,rfl,Lib.NoAny.zero _ _⟩
 case round=>
  obtain⟨i,Q,rfl,rfl,r1⟩:=hrel
  have D:Aside (Lib.NoAny s.data.toList c.data.toList i):=r1
  clear r1
  cases gk with
  |zero=>
   obtain rfl:i=s.size:=by omega
   have l:¬ ((s.size:Int)<(s.size:Int)):=by omega
   go_wp2
   go_ret
   exact⟨by rw[Lib.indexAny_none (by rw[<-Lib.size_eq];exact D.out)];rfl,k⟩
  |succ g=>
   have hi:i<s.size:=by omega
   have l:(i:Int)<(s.size:Int):=by omega
   obtain⟨x,hx⟩:∃ x:UInt8,s[i]'hi=x:=⟨_,rfl⟩
   have r6:s.data.toList[i]?=some x:=by rw[<-hx];exact Lib.data_getElem? s i hi
   have L:=HB.out i hi
   rw[show s.get! i=x by rw[<-hx];exact get_at s i hi] at L
   have Y:Aside (s.data.toList[i]?=some x):=r6
   clear r6 hx
   have m:=p.out x
   cases n:c.data.toList.contains x<;>rw[n] at m
   ·go_wp2_with (go_at_fn 166;refine(Mm _ x _ _ m).mono ?_;rintro e w' ⟨rfl,G⟩;rw[G])
    go_roundg g
    case measure=>omega
    case rel=>exact⟨i+1,by omega,by first|rfl|simp,rfl,D.out.succ Y.out n⟩
   ·go_wp2_with (go_at_fn 166;refine(Mm _ x _ _ m).mono ?_;rintro e w' ⟨rfl,G⟩;rw[G])
    go_ret
    exact⟨by rw[Lib.indexAny_hit D.out Y.out n];rfl,k⟩
end Go.Proofs.YtgmnipfafmphaaaGreatDoor
