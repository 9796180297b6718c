/-
  Texts of mine, one behind the other (SZShelf, SZLibT, SZLibS, SZG1, SZLibO, SZLibP, SZLibQ, SZLibH, SZShelfI, SZLibI, SZShelfV, SZLibV, SZLibC, SZShelfC, SZLibD, SZLibG, SZCodeN).
-/
import Derived.Test.YtgmnipfafmphaaaGreatDoorSZEngA
import Derived.Ground.NamesProg
import Derived.Shelf.Strings.SlTrimAscii
import Derived.Shelf.Small.Strs
import Derived.Shelf.Strings.IndexAnyAll
import Derived.Test.YtgmnipfafmphaaaGreatDoorProg
import Derived.Test.YtgmnipfafmphaaaGreatDoorSZEngY
import Derived.Test.YtgmnipfafmphaaaGreatDoorSZEngZz
import Derived.Test.YtgmnipfafmphaaaGreatDoorSZEngX
import Derived.Lib.SlBytesConst
import Derived.ArgAppend
import Derived.Shelf.Strconv.Itoa3
import Derived.Shelf.Small.Wraps
import Derived.Shelf.Strconv.Atoi
import Derived.Shelf.SlicesE.Clone
import Derived.Shelf.SlGeneric
import Derived.Ground.SlgnProg
import Derived.Test.YtgmnipfafmphaaaGreatDoorSZEngRq
import Derived.Deep.RegionLaw
import Derived.Deep.LoopGhost
import Derived.Shelf.RegionOpenPlain
import Derived.Lib.SliceRun
import Derived.Lib.SlicesDelete
import Derived.Lib.LazyBuf
import Derived.Deep.Upon
import Derived.Test.YtgmnipfafmphaaaGreatDoorSZPL
namespace Go.Proofs
open Go.Proofs.YtgmnipfafmphaaaGreatDoor
open Go.Shelf
def Tryz.lays160_ren:Go.Shelf.Ren:=⟨fun|160=>81|232=>116|231=>115|227=>117|234=>119|233=>118|236=>121|235=>120|228=>151|271=>154|151=>153|197=>152|120=>175|152=>174|260=>173|137=>89|119=>184|224=>186|225=>168|217=>132|266=>161|n=>n,fun|9=>9|4=>4|3=>3|5=>5|117=>182|116=>181|0=>0|124=>185|21=>21|105=>207|46=>218|119=>245|139=>248|138=>247|n=>n,fun|3=>4|4=>5|n=>n⟩
theorem Tryz.lays160:Go.Proofs.Lays.n160 Tryz.prog Tryz.lays160_ren:={
 mixed:=oK
 f119:=Tryz.func184.trans (Na some oK)
 f120:=Tryz.func175.trans (Na some oK)
 f137:=Tryz.func89.trans (Na some oK)
 f151:=Tryz.func153.trans (Na some oK)
 f152:=Tryz.func174.trans (Na some oK)
 f160:=Tryz.func81.trans (Na some oK)
 f197:=Tryz.func152.trans (Na some oK)
 f217:=Tryz.func132.trans (Na some oK)
 f224:=Tryz.func186.trans (Na some oK)
 f225:=Tryz.func168.trans (Na some oK)
 f227:=Tryz.func117.trans (Na some oK)
 f228:=Tryz.func151.trans (Na some oK)
 f231:=Tryz.func115.trans (Na some oK)
 f232:=Tryz.func116.trans (Na some oK)
 f233:=Tryz.func118.trans (Na some oK)
 f234:=Tryz.func119.trans (Na some oK)
 f235:=Tryz.func120.trans (Na some oK)
 f236:=Tryz.func121.trans (Na some oK)
 f260:=Tryz.func173.trans (Na some oK)
 f266:=Tryz.func161.trans (Na some oK)
 f271:=Tryz.func154.trans (Na some oK)
 t0:=Tryz.underlying0
 a0:=Tryz.isAgg0
 z0:=Tryz.sizeOf0
 v0:=Tryz.zeroValue0
 t3:=Tryz.underlying3
 a3:=Tryz.isAgg3
 z3:=Tryz.sizeOf3
 v3:=Tryz.zeroValue3
 t4:=Tryz.underlying4
 a4:=Tryz.isAgg4
 z4:=Tryz.sizeOf4
 v4:=Tryz.zeroValue4
 t5:=Tryz.underlying5
 a5:=Tryz.isAgg5
 z5:=Tryz.sizeOf5
 v5:=Tryz.zeroValue5
 t9:=Tryz.underlying9
 a9:=Tryz.isAgg9
 z9:=Tryz.sizeOf9
 v9:=Tryz.zeroValue9
 t21:=Tryz.underlying21
 a21:=Tryz.isAgg21
 z21:=Tryz.sizeOf21
 v21:=Tryz.zeroValue21
 t46:=Tryz.underlying218
 a46:=Tryz.isAgg218
 z46:=Tryz.sizeOf218
 v46:=Tryz.zeroValue218
 t105:=Tryz.underlying207
 a105:=Tryz.isAgg207
 z105:=Tryz.sizeOf207
 v105:=Tryz.zeroValue207
 t116:=Tryz.underlying181
 a116:=Tryz.isAgg181
 z116:=Tryz.sizeOf181
 t117:=Tryz.underlying182
 a117:=Tryz.isAgg182
 z117:=Tryz.sizeOf182
 v117:=Tryz.zeroValue182
 t119:=Tryz.underlying245
 a119:=Tryz.isAgg245
 z119:=Tryz.sizeOf245
 t124:=Tryz.underlying185
 a124:=Tryz.isAgg185
 z124:=Tryz.sizeOf185
 v124:=Tryz.zeroValue185
 t138:=Tryz.underlying247
 a138:=Tryz.isAgg247
 z138:=Tryz.sizeOf247
 v138:=Tryz.zeroValue247
 t139:=Tryz.underlying248
 a139:=Tryz.isAgg248
 z139:=Tryz.sizeOf248
 v139:=Tryz.zeroValue248
 g3:=oK
 g4:=by kernel_rfl}
def Tryz.lays137_ren:Go.Shelf.Ren:=⟨fun|137=>89|217=>132|266=>161|n=>n,fun|9=>9|5=>5|3=>3|n=>n,fun|n=>n⟩
theorem Tryz.lays137:Go.Proofs.Lays.n137 Tryz.prog Tryz.lays137_ren:={
 mixed:=oK
 f137:=Tryz.func89.trans (Na some oK)
 f217:=Tryz.func132.trans (Na some oK)
 f266:=Tryz.func161.trans (Na some oK)
 t3:=Tryz.underlying3
 a3:=Tryz.isAgg3
 z3:=Tryz.sizeOf3
 v3:=Tryz.zeroValue3
 t5:=Tryz.underlying5
 a5:=Tryz.isAgg5
 z5:=Tryz.sizeOf5
 v5:=Tryz.zeroValue5
 t9:=Tryz.underlying9
 a9:=Tryz.isAgg9
 z9:=Tryz.sizeOf9
 v9:=Tryz.zeroValue9}
def Tryz.lays150_ren:Go.Shelf.Ren:=⟨fun|150=>130|153=>160|152=>174|226=>181|227=>117|228=>151|137=>89|119=>184|224=>186|225=>168|217=>132|266=>161|n=>n,fun|9=>9|4=>4|3=>3|5=>5|21=>21|117=>182|116=>181|0=>0|46=>218|124=>185|n=>n,fun|n=>n⟩
theorem Tryz.lays150:Go.Proofs.Lays.n150 Tryz.prog Tryz.lays150_ren:={
 mixed:=oK
 f119:=Tryz.func184.trans (Na some oK)
 f137:=Tryz.func89.trans (Na some oK)
 f150:=Tryz.func130.trans (Na some oK)
 f152:=Tryz.func174.trans (Na some oK)
 f153:=Tryz.func160.trans (Na some oK)
 f217:=Tryz.func132.trans (Na some oK)
 f224:=Tryz.func186.trans (Na some oK)
 f225:=Tryz.func168.trans (Na some oK)
 f226:=Tryz.func181.trans (Na some oK)
 f227:=Tryz.func117.trans (Na some oK)
 f228:=Tryz.func151.trans (Na some oK)
 f266:=Tryz.func161.trans (Na some oK)
 t0:=Tryz.underlying0
 a0:=Tryz.isAgg0
 z0:=Tryz.sizeOf0
 v0:=Tryz.zeroValue0
 t3:=Tryz.underlying3
 a3:=Tryz.isAgg3
 z3:=Tryz.sizeOf3
 v3:=Tryz.zeroValue3
 t4:=Tryz.underlying4
 a4:=Tryz.isAgg4
 z4:=Tryz.sizeOf4
 v4:=Tryz.zeroValue4
 t5:=Tryz.underlying5
 a5:=Tryz.isAgg5
 z5:=Tryz.sizeOf5
 v5:=Tryz.zeroValue5
 t9:=Tryz.underlying9
 a9:=Tryz.isAgg9
 z9:=Tryz.sizeOf9
 v9:=Tryz.zeroValue9
 t21:=Tryz.underlying21
 a21:=Tryz.isAgg21
 z21:=Tryz.sizeOf21
 v21:=Tryz.zeroValue21
 t46:=Tryz.underlying218
 a46:=Tryz.isAgg218
 z46:=Tryz.sizeOf218
 v46:=Tryz.zeroValue218
 t116:=Tryz.underlying181
 a116:=Tryz.isAgg181
 z116:=Tryz.sizeOf181
 t117:=Tryz.underlying182
 a117:=Tryz.isAgg182
 z117:=Tryz.sizeOf182
 v117:=Tryz.zeroValue182
 t124:=Tryz.underlying185
 a124:=Tryz.isAgg185
 z124:=Tryz.sizeOf185
 v124:=Tryz.zeroValue185}
end Go.Proofs
namespace Go.Proofs.YtgmnipfafmphaaaGreatDoor
set_option linter.unusedSimpArgs false
set_option linter.unusedVariables false
open Go.RowKit Go.Shelf
def em (s cs:List UInt8):Option (List UInt8):=if s.length<=9223372036854775807/\cs.length<4294967281/\cs.all (fun b=>decide (b.toNat<128))=true then some (Lib.trimS s cs) else none
theorem mu (s cs:List UInt8):∀ r,em s cs=some r->ae Tryz.prog 81 [.str s,.str cs] (.str r):=by
 intro r hr
 unfold em at hr
 split at hr
 ·rename_i h
  obtain⟨h1,h2,h3⟩:=h
  cases hr
  refine⟨by kernel_rfl,fun w M vs hM hv _=> ?_⟩
  simp only[an,aJ] at hv
  obtain⟨u,us,rfl,rfl,u',us',rfl,rfl,rfl⟩:=hv
  have hcon:=Any.strings_Trim_laid Tryz.lays160 oK ⟨s.toArray⟩ ⟨cs.toArray⟩ w (by simpa[ByteArray.size] using h1) (by simpa[ByteArray.size] using h2) (ascii_of_all (by simpa using h3))
  refine Calls.mono hcon ?_
  rintro e w' ⟨rfl,hB⟩
  exact⟨_,rfl,by simp[aJ],hB⟩
 ·cases hr
end Go.Proofs.YtgmnipfafmphaaaGreatDoor
namespace Go.Proofs.YtgmnipfafmphaaaGreatDoor
set_option linter.unusedSimpArgs false
set_option linter.unusedVariables false
open Go.RowKit Go.Shelf
def la (s:List UInt8) (c:UInt8):Option Int:=some (Lib.indexByte s c)
theorem nZ (s:List UInt8) (c:UInt8):∀ r,la s c=some r->ae Tryz.prog 89 [.str s,.int .u8 c.toNat] (.int .i64 r):=by
 intro r hr
 cases hr
 refine⟨by kernel_rfl,fun w M vs hM hv _=> ?_⟩
 simp only[an,aJ] at hv
 obtain⟨u,us,rfl,rfl,u',us',rfl,rfl,rfl⟩:=hv
 have hcon:=Any.strings_IndexByte Tryz.lays137 ⟨s.toArray⟩ (c.toNat:Int) w
 refine Calls.mono hcon ?_
 rintro e w' ⟨rfl,rfl⟩
 refine⟨_,rfl, ?_,Below.refl _ _⟩
 simp only[aJ]
 have:((c.toNat:Int)).toNat.toUInt8=c:=by simp
 rw[this]
def eW (s cs:List UInt8):Option Bool:=if s.length<4294967281/\cs.length<4294967281/\s.all (fun b=>decide (b.toNat<128))=true/\cs.all (fun b=>decide (b.toNat<128))=true then some (Lib.containsAny s cs) else none
theorem mK (s cs:List UInt8):∀ r,eW s cs=some r->ae Tryz.prog 130 [.str s,.str cs] (.bool r):=by
 intro r hr
 unfold eW at hr
 split at hr
 ·rename_i h
  obtain⟨h1,h2,h3,h4⟩:=h
  cases hr
  refine⟨by kernel_rfl,fun w M vs hM hv _=> ?_⟩
  simp only[an,aJ] at hv
  obtain⟨u,us,rfl,rfl,u',us',rfl,rfl,rfl⟩:=hv
  have asc:∀ (l:List UInt8),l.all (fun b=>decide (b.toNat<128))=true->∀ (j:Nat) b,l[j]?=some b->b.toNat<128:=fun l hl j b hb=>by
   have:=Lj.1 hl b (K8 hb)
   simpa using this
  have hcon:=Any.strings_ContainsAny_laid Tryz.lays150 oK ⟨s.toArray⟩ ⟨cs.toArray⟩ w (by simpa[ByteArray.size] using h1) (by simpa[ByteArray.size] using h2) (asc s h3) (asc cs h4)
  refine Calls.mono hcon ?_
  rintro e w' ⟨rfl,hB⟩
  exact⟨_,rfl,by simp[aJ],hB⟩
 ·cases hr
end Go.Proofs.YtgmnipfafmphaaaGreatDoor
namespace Go.Proofs.YtgmnipfafmphaaaGreatDoor
open Go.RowKit
set_option linter.unusedSimpArgs false
set_option linter.unusedVariables false
structure bQ where
 fElement:UInt8
 fPart:UInt8
 fRepeat:UInt8
 fEscape:UInt8
 fEnd:UInt8
 deriving DecidableEq
def bJ (x:bQ):List DV:=[.int .u8 (x.fElement).toNat,.int .u8 (x.fPart).toNat,.int .u8 (x.fRepeat).toNat,.int .u8 (x.fEscape).toNat,.int .u8 (x.fEnd).toNat]
attribute [push_cast] bJ
theorem xC {d0 d1 d2 d3 d4:DV} {v0:UInt8} {v1:UInt8} {v2:UInt8} {v3:UInt8} {v4:UInt8} (h0:d0= .int .u8 (v0).toNat) (h1:d1= .int .u8 (v1).toNat) (h2:d2= .int .u8 (v2).toNat) (h3:d3= .int .u8 (v3).toNat) (h4:d4= .int .u8 (v4).toNat):[d0,d1,d2,d3,d4]=bJ ⟨v0,v1,v2,v3,v4⟩:=by unfold bJ;simp only[h0,h1,h2,h3,h4,Lw,Lk,Lc,Lr]
structure ax where
 fRepeats:List (List (List UInt8))
 deriving DecidableEq
def ap (x:ax):List DV:=[.slice (List.map (gf dB) x.fRepeats)]
attribute [push_cast] ap
theorem uC {d0:DV} {v0:List (List (List UInt8))} (h0:d0= .slice (List.map (gf dB) v0)):[d0]=ap ⟨v0⟩:=by unfold ap;simp only[h0,Lw,Lk,Lc,Lr]
structure aa where
 fTag:List UInt8
 fElements:List ax
 deriving DecidableEq
def af (x:aa):List DV:=[.str x.fTag,.slice (List.map ap x.fElements)]
attribute [push_cast] af
theorem uD {d0 d1:DV} {v0:List UInt8} {v1:List ax} (h0:d0= .str v0) (h1:d1= .slice (List.map ap v1)):[d0,d1]=af ⟨v0,v1⟩:=by unfold af;simp only[h0,h1,Lw,Lk,Lc,Lr]
theorem uE {d0 d1:SV} {v0:List UInt8} {v1:List ax} (h0:ou d0 (.d (.str v0))) (h1:ou d1 (.d (.slice (List.map ap v1)))):aC [d0,d1] (dR (af ⟨v0,v1⟩)):=by have h:=(aC.append (aC.consS h0 aC.nil) (aC.consS h1 aC.nil));simpa only[af,dR,Mw,Lh,MY,Lw,Lk,Lc,Lr] using h
def nh:SC:=
 (.seq (.reg [.r 2 (.mv (.c (.d (.bool false))))])
 (.seq (.reg [.r 3 (.mv (.t 0)),
   .c 4 (.f 81) [.t 3,.c (.d (.str [65,66,67,68,69,70,71,72,73,74,75,76,77,78,79,80,81,82,83,84,85,86,87,88,89,90,48,49,50,51,52,53,54,55,56,57]))],
   .r 5 (.bin .eql (.t 4) (.c (.d (.str [])))),
   .r 2 (.mv (.t 5))])
 .ret))
theorem sd:fits Tryz.prog 90 Tryz.f90 nh [.t 2] 1=true:=oK
def jD:SC:=
 (.seq (.reg [.r 11 (.bin .lss (.t 10) (.t 9))])
 (.seq (.cond (.t 11)
  .skip
  (.exit 0))
 (.seq (.block 1 (.seq (.reg [.r 12 (.mv (.t 10)),
    .r 7 (.mv (.t 12))])
  (.seq (.reg (.r 13 (.mv (.t 0)):: .r 14 (.mv (.t 7)):: .r 15 (.sidx (.t 13) (.t 14)):: .r 16 (.mv (.t 1)):: .r 17 (.bin .lss (.t 15) (.t 16)):: .r 18 (.mv (.t 17))::cD [19,20,21,22,23] 18 false (.r 19 (.mv (.t 0)):: .r 20 (.mv (.t 7)):: .r 21 (.sidx (.t 19) (.t 20)):: .r 22 (.mv (.t 2)):: .r 23 (.bin .gtr (.t 21) (.t 22))::[]) (.r 24 (.pick (.t 18) (.c (.d (.bool true))) (.t 23))::[])))
  (.cond (.t 24)
   (.seq (.reg [.r 6 (.mv (.c (.d (.bool false))))])
   .ret)
   .skip))))
 (.reg [.r 25 (.bin .add (.t 10) (.c (.d (.int .i64 1)))),
   .r 10 (.mv (.t 25))]))))
def ml:SC:= .block 0 (.loop jD)
def oZ:SC:=
 (.seq (.reg [.r 6 (.mv (.c (.d (.bool false))))])
 (.seq (.seq (.reg [.r 8 (.mv (.t 0)),
   .r 9 (.lenT (.t 8)),
   .r 10 (.mv (.c (.d (.int .i64 0))))])
 ml)
 (.seq (.reg [.r 6 (.mv (.c (.d (.bool true))))])
 .ret)))
theorem uF:fits Tryz.prog 129 Tryz.f129 oZ [.t 6] 3=true:=oK
def et:SC:=
 (.seq (.reg [.r 9 (.bin .lss (.t 8) (.t 7))])
 (.seq (.cond (.t 9)
  .skip
  (.exit 0))
 (.seq (.block 1 (.seq (.reg [.r 10 (.mv (.t 8)),
    .r 5 (.mv (.t 10))])
  (.seq (.reg [.r 11 (.mv (.t 1)),
    .r 12 (.mv (.t 0)),
    .r 13 (.mv (.t 5)),
    .r 14 (.idx 1 (.t 12) (.t 13)),
    .o 15 (.ld1 (.t 14)),
    .r 16 (.bin .eql (.t 11) (.t 15))])
  (.cond (.t 16)
   (.seq (.reg [.r 17 (.mv (.t 5)),
     .r 4 (.mv (.t 17))])
   .ret)
   .skip))))
 (.reg [.r 18 (.bin .add (.t 8) (.c (.d (.int .i64 1)))),
   .r 8 (.mv (.t 18))]))))
def gp:SC:= .block 0 (.loop et)
def ib:SC:=
 (.seq (.reg [.r 4 (.mv (.c (.d (.int .i64 0))))])
 (.seq (.seq (.reg [.r 6 (.mv (.t 0)),
   .r 7 (.len (.t 6)),
   .r 8 (.mv (.c (.d (.int .i64 0))))])
 gp)
 (.seq (.reg [.r 4 (.mv (.c (.d (.int .i64 (-1)))))])
 .ret)))
theorem lM:fits Tryz.prog 131 Tryz.f131 ib [.t 4] 2=true:=oK
def dQ:SC:=
 (.seq (.seq (.reg [.r 5 (.mv (.t 3)),
   .r 6 (.mv (.t 0)),
   .r 7 (.lenT (.t 6)),
   .r 8 (.bin .lss (.t 5) (.t 7))])
 (.cond (.t 8)
  .skip
  (.exit 0)))
 (.seq (.block 1 (.seq (.reg (.r 11 (.mv (.t 0)):: .r 12 (.mv (.t 3)):: .r 13 (.sidx (.t 11) (.t 12)):: .r 14 (.bin .geq (.t 13) (.c (.d (.int .u8 65)))):: .r 15 (.mv (.t 14))::cD [16,17,18,19] 15 true (.r 16 (.mv (.t 0)):: .r 17 (.mv (.t 3)):: .r 18 (.sidx (.t 16) (.t 17)):: .r 19 (.bin .leq (.t 18) (.c (.d (.int .u8 90))))::[]) (.r 20 (.pick (.t 15) (.t 19) (.c (.d (.bool false)))):: .r 4 (.mv (.t 20))::[])))
  (.seq (.reg (.r 21 (.mv (.t 4)):: .r 22 (.not (.t 21)):: .r 23 (.mv (.t 22))::cD [24,25,26,27,28,29,30,31,32,33,34,35,36,37] 23 true (.r 24 (.mv (.t 3)):: .r 25 (.bin .eql (.t 24) (.c (.d (.int .i64 0)))):: .r 26 (.mv (.t 25))::cD [27,28,29,30] 26 false (.r 27 (.mv (.t 0)):: .r 28 (.mv (.t 3)):: .r 29 (.sidx (.t 27) (.t 28)):: .r 30 (.bin .lss (.t 29) (.c (.d (.int .u8 48))))::[]) (.r 31 (.pick (.t 26) (.c (.d (.bool true))) (.t 30)):: .r 32 (.mv (.t 31))::cD [33,34,35,36] 32 false (.r 33 (.mv (.t 0)):: .r 34 (.mv (.t 3)):: .r 35 (.sidx (.t 33) (.t 34)):: .r 36 (.bin .gtr (.t 35) (.c (.d (.int .u8 57))))::[]) (.r 37 (.pick (.t 32) (.c (.d (.bool true))) (.t 36))::[]))) (.r 38 (.pick (.t 23) (.t 37) (.c (.d (.bool false))))::[])))
  (.cond (.t 38)
   (.seq (.reg [.r 2 (.mv (.c (.d (.bool false))))])
   .ret)
   .skip))))
 (.reg [.r 9 (.mv (.t 3)),
   .r 10 (.bin .add (.t 9) (.c (.d (.int .i64 1)))),
   .r 3 (.mv (.t 10))])))
def jX:SC:= .block 0 (.loop dQ)
def dS:SC:=
 (.seq (.seq (.reg [.r 7 (.mv (.t 3)),
   .r 8 (.mv (.t 0)),
   .r 9 (.lenT (.t 8)),
   .r 10 (.bin .lss (.t 7) (.t 9))])
 (.cond (.t 10)
  .skip
  (.exit 0)))
 (.seq (.block 1 (.seq (.reg (.r 13 (.mv (.t 0)):: .r 14 (.mv (.t 3)):: .r 15 (.sidx (.t 13) (.t 14)):: .r 16 (.bin .lss (.t 15) (.c (.d (.int .u8 32)))):: .r 17 (.mv (.t 16))::cD [18,19,20,21] 17 false (.r 18 (.mv (.t 0)):: .r 19 (.mv (.t 3)):: .r 20 (.sidx (.t 18) (.t 19)):: .r 21 (.bin .gtr (.t 20) (.c (.d (.int .u8 126))))::[]) (.r 22 (.pick (.t 17) (.c (.d (.bool true))) (.t 21))::[])))
  (.cond (.t 22)
   (.seq (.reg [.r 2 (.mv (.c (.d (.int .i64 3))))])
   .ret)
   .skip)))
 (.reg [.r 11 (.mv (.t 3)),
   .r 12 (.bin .add (.t 11) (.c (.d (.int .i64 1)))),
   .r 3 (.mv (.t 12))])))
def jY:SC:= .block 0 (.loop dS)
set_option maxRecDepth 100000 in
set_option maxHeartbeats 40000000 in
noncomputable def eI:(∀ (x0:List UInt8),{m:Option (Bool)//∀ r,m=some r->ae Tryz.prog 90 [.str x0] (.bool r)})×(∀ (x0:List UInt8) (x1:UInt8) (x2:UInt8),{m:Option (Bool)//∀ r,m=some r->ae Tryz.prog 129 [.str x0,.int .u8 (x1).toNat,.int .u8 (x2).toNat] (.bool r)})×(∀ (x0:List UInt8) (x1:UInt8),{m:Option (Int)//∀ r,m=some r->ae Tryz.prog 131 [.slice (List.map ka x0),.int .u8 (x1).toNat] (.int .i64 r)}):=by
 refine⟨?g0, ?g1, ?g2⟩
 case' g0=>(intro x0;apply Subtype.mk;intro r hm;apply az Tryz.func90 sd;unfold nh)
 case' g1=>(intro x0 x1 x2;apply Subtype.mk;intro r hm;apply az Tryz.func129 uF;unfold oZ)
 case' g2=>(intro x0 x1;apply Subtype.mk;intro r hm;apply az Tryz.func131 lM;unfold ib)
 all_goals(repeat'(first|with_reducible refine d6 ?_|with_reducible refine dL ?_|with_reducible refine cd ?_|with_reducible refine cG ?_|with_reducible refine fL ?_|with_reducible refine d8 ?_|with_reducible refine dM ?_|with_reducible refine d7 ?_|with_reducible refine d9 ?_|with_reducible refine eO ?_|with_reducible refine cg ?_|with_reducible refine eh ?_|with_reducible refine fV ?_|((with_reducible apply gy hm);(iterate 2 (simp only[push_cast,seval];rfl));(intro _;rfl);intro e hm)|((with_reducible apply va hm);(iterate 2 (simp only[push_cast,seval];rfl));intro e hm)|((with_reducible apply j1);(simp only[push_cast,seval];rfl);(first|exact trivial))|((with_reducible apply oW hm);(simp only[push_cast,seval];rfl);rfl;intro v hm;rotate_left;intro v g hm)|((with_reducible apply uz hm);(simp only[push_cast,seval];rfl);rfl;intro v hm;rotate_left;intro v g hm)|((with_reducible apply mb hm);(simp only[push_cast,seval];rfl);(first|apply mu _ _);(any_goals((repeat'(first|rfl));done));intro x hm)|((with_reducible apply cj hm);(simp only[push_cast,seval];rfl);intro hm;rotate_left;intro hm)|((with_reducible apply fT hm);(focus(simp only[eN,jg,RV.get,push_cast,seval];rfl));(focus((repeat'(first|rfl));done)))|((with_reducible apply gT hm);(simp only[push_cast,seval];rfl))|((with_reducible apply dZ hm);intro r hm)|((with_reducible apply gn hm);intro r hm)|((apply aF (b:=0) (X:=ml) (x:=jD) rfl (fun(c:SV×SV×SV×SV) (s:Int)=>st [(0,c.1),(1,c.2.1),(2,c.2.2.1),(9,c.2.2.2),(10,.d (.int .i64 s))] []) (c:=(_,_,_,_)) (s0:=_) hm);(focus(first|(dsimp only;done)));(with_reducible refine dP.mk ?_ ?_))|((apply aF (b:=0) (X:=gp) (x:=et) rfl (fun(c:SV×SV×SV) (s:Int)=>st [(0,c.1),(1,c.2.1),(7,c.2.2),(8,.d (.int .i64 s))] []) (c:=(_,_,_)) (s0:=_) hm);(focus(first|(dsimp only;done)));(with_reducible refine dP.mk ?_ ?_))|((apply aF (b:=0) (X:=jX) (x:=dQ) rfl (fun(c:SV) (s:Int)=>st [(0,c),(3,.d (.int .i64 s))] []) (c:=_) (s0:=_) hm);(focus(first|(dsimp only;done)));(with_reducible refine dP.mk ?_ ?_))|((apply aF (b:=0) (X:=jY) (x:=dS) rfl (fun(c:SV) (s:Int)=>st [(0,c),(3,.d (.int .i64 s))] []) (c:=_) (s0:=_) hm);(focus(first|(dsimp only;done)));(with_reducible refine dP.mk ?_ ?_))|((apply ea (s':=_) hm);(focus(first|(dsimp only;done))))|((apply fU (s':=_) hm);(focus(first|(dsimp only;done))))|(((with_reducible apply kQ hm);intro r hm))|(((with_reducible apply go.of);(focus(first|(dsimp only;done)));(focus((intro _;repeat'(first|with_reducible exact fd|with_reducible refine di ?_))));(intro s o hm;first|unfold jD|unfold et|unfold dQ|unfold dS);rotate_left;intro s hm))|(((apply dt;(repeat'(first|with_reducible exact bS|with_reducible exact bT|with_reducible apply bi|((with_reducible apply ck);(focus(first|(simp only[push_cast,seval];rfl)));(focus((repeat'(first|rfl));done)))));done)))))
noncomputable def kR (x0:List UInt8):Option (Bool):=(eI.1 x0).1
theorem rg (x0:List UInt8):∀ r,kR x0=some r->ae Tryz.prog 90 [.str x0] (.bool r):=(eI.1 x0).2
noncomputable def iw (x0:List UInt8) (x1:UInt8) (x2:UInt8):Option (Bool):=(eI.2.1 x0 x1 x2).1
theorem ni (x0:List UInt8) (x1:UInt8) (x2:UInt8):∀ r,iw x0 x1 x2=some r->ae Tryz.prog 129 [.str x0,.int .u8 (x1).toNat,.int .u8 (x2).toNat] (.bool r):=(eI.2.1 x0 x1 x2).2
noncomputable def fD (x0:List UInt8) (x1:UInt8):Option (Int):=(eI.2.2 x0 x1).1
theorem li (x0:List UInt8) (x1:UInt8):∀ r,fD x0 x1=some r->ae Tryz.prog 131 [.slice (List.map ka x0),.int .u8 (x1).toNat] (.int .i64 r):=(eI.2.2 x0 x1).2
def lN:SC:=
 (.seq (.reg [.r 2 (.mv (.c (.d (.bool false))))])
 (.seq (.reg [.r 4 (.mv (.t 0)),
   .r 5 (.cvis (.t 4)),
   .r 3 (.mv (.t 5))])
 (.seq (.reg (.r 6 (.mv (.t 0)):: .r 7 (.bin .geq (.t 6) (.c (.d (.int .u8 33)))):: .r 8 (.mv (.t 7))::cD [9,10] 8 true (.r 9 (.mv (.t 0)):: .r 10 (.bin .leq (.t 9) (.c (.d (.int .u8 126))))::[]) (.r 11 (.pick (.t 8) (.t 10) (.c (.d (.bool false)))):: .r 12 (.mv (.t 11))::cD [13,14,15] 12 true (.r 13 (.mv (.t 3)):: .c 14 (.f 90) [.t 13]:: .r 15 (.not (.t 14))::[]) (.r 16 (.pick (.t 12) (.t 15) (.c (.d (.bool false)))):: .r 17 (.mv (.t 16))::cD [18,19,20] 17 true (.r 18 (.mv (.t 3)):: .c 19 (.f 129) [.t 18,.c (.d (.int .u8 97)),.c (.d (.int .u8 122))]:: .r 20 (.not (.t 19))::[]) (.r 21 (.pick (.t 17) (.t 20) (.c (.d (.bool false)))):: .r 22 (.mv (.t 21))::cD [23,24,25] 22 true (.r 23 (.mv (.t 3)):: .c 24 (.f 130) [.t 23,.c (.d (.str [46,45,43,95]))]:: .r 25 (.not (.t 24))::[]) (.r 26 (.pick (.t 22) (.t 25) (.c (.d (.bool false)))):: .r 2 (.mv (.t 26))::[]))))))
 .ret)))
theorem qk:fits Tryz.prog 87 Tryz.f87 lN [.t 2] 1=true:=oK
def gq:SC:=
 (.seq (.reg [.r 4 (.mv (.c (.d (.bool false))))])
 (.seq (.reg [.r 5 (.mv (.t 0)),
   .r 6 (.mv (.t 1)),
   .c 7 (.f 131) [.t 5,.t 6],
   .r 8 (.bin .geq (.t 7) (.c (.d (.int .i64 0)))),
   .r 4 (.mv (.t 8))])
 .ret))
theorem kH:fits Tryz.prog 88 Tryz.f88 gq [.t 4] 2=true:=oK
def se:SC:=
 (.seq (.reg [.r 2 (.mv (.c (.d (.bool false))))])
 (.seq (.reg (.r 3 (.mv (.t 0)):: .r 4 (.lenT (.t 3)):: .r 5 (.bin .geq (.t 4) (.c (.d (.int .i64 2)))):: .r 6 (.mv (.t 5))::cD [7,8,9] 6 true (.r 7 (.mv (.t 0)):: .r 8 (.lenT (.t 7)):: .r 9 (.bin .leq (.t 8) (.c (.d (.int .i64 6))))::[]) (.r 10 (.pick (.t 6) (.t 9) (.c (.d (.bool false)))):: .r 11 (.mv (.t 10))::cD [12,13,14,15] 11 true (.r 12 (.mv (.t 0)):: .r 13 (.sidx (.t 12) (.c (.d (.int .i64 0)))):: .c 14 (.f 89) [.c (.d (.str [65,66,67,68,69,70,71,72,73,74,75,76,77,78,79,80,81,82,83,84,85,86,87,88,89,90])),.t 13]:: .r 15 (.bin .geq (.t 14) (.c (.d (.int .i64 0))))::[]) (.r 16 (.pick (.t 11) (.t 15) (.c (.d (.bool false)))):: .r 17 (.mv (.t 16))::cD [18,19] 17 true (.r 18 (.mv (.t 0)):: .c 19 (.f 90) [.t 18]::[]) (.r 20 (.pick (.t 17) (.t 19) (.c (.d (.bool false)))):: .r 2 (.mv (.t 20))::[])))))
 .ret))
theorem xD:fits Tryz.prog 47 Tryz.f47 se [.t 2] 1=true:=oK
def qw:SC:=
 (.seq (.reg [.r 2 (.mv (.c (.d (.bool false))))])
 (.seq (.reg (.r 3 (.mv (.t 0)):: .r 4 (.lenT (.t 3)):: .r 5 (.bin .leq (.t 4) (.c (.d (.int .i64 1000)))):: .r 6 (.mv (.t 5))::cD [7,8] 6 true (.r 7 (.mv (.t 0)):: .c 8 (.f 129) [.t 7,.c (.d (.int .u8 32)),.c (.d (.int .u8 126))]::[]) (.r 9 (.pick (.t 6) (.t 8) (.c (.d (.bool false)))):: .r 2 (.mv (.t 9))::[])))
 .ret))
theorem wF:fits Tryz.prog 133 Tryz.f133 qw [.t 2] 1=true:=oK
def dC:SC:=
 (.seq (.seq (.reg [.r 56 (.mv (.t 5)),
   .r 57 (.mv (.t 4)),
   .r 58 (.bin .lss (.t 56) (.t 57))])
 (.cond (.t 58)
  .skip
  (.exit 2)))
 (.seq (.block 3 (.seq (.regD [.r 61 (.mv (.t 3)),
    .r 62 (.mv (.t 4)),
    .r 63 (.idx 1 (.t 61) (.t 62)),
    .r 64 (.ld1 (.t 63)),
    .r 65 (.mv (.t 3)),
    .r 66 (.mv (.t 5)),
    .r 67 (.idx 1 (.t 65) (.t 66)),
    .r 68 (.ld1 (.t 67)),
    .r 69 (.bin .eql (.t 64) (.t 68))])
  (.cond (.t 69)
   (.seq (.reg [.r 2 (.mv (.c (.d (.int .i64 7))))])
   .ret)
   .skip)))
 (.reg [.r 59 (.mv (.t 5)),
   .r 60 (.bin .add (.t 59) (.c (.d (.int .i64 1)))),
   .r 5 (.mv (.t 60))])))
def fh:SC:= .block 2 (.loop dC)
def dD:SC:=
 (.seq (.seq (.reg [.r 50 (.mv (.t 4)),
   .r 51 (.mv (.t 3)),
   .r 52 (.len (.t 51)),
   .r 53 (.bin .lss (.t 50) (.t 52))])
 (.cond (.t 53)
  .skip
  (.exit 0)))
 (.seq (.block 1 (.seq (.reg [.r 5 (.mv (.c (.d (.int .i64 0))))])
  fh))
 (.reg [.r 54 (.mv (.t 4)),
   .r 55 (.bin .add (.t 54) (.c (.d (.int .i64 1)))),
   .r 4 (.mv (.t 55))])))
def jE:SC:= .block 0 (.loop dD)
def c9:SC:=
 (.seq (.seq (.reg [.r 35 (.mv (.t 4)),
   .r 36 (.fld 0 (.t 1)),
   .o 37 (.ld1 (.t 36)),
   .r 38 (.mv (.t 3)),
   .r 39 (.idx 1 (.t 37) (.t 38)),
   .o 40 (.ld1 (.t 39)),
   .r 41 (.len (.t 40)),
   .r 42 (.bin .lss (.t 35) (.t 41))])
 (.cond (.t 42)
  .skip
  (.exit 2)))
 (.seq (.block 3 (.seq (.reg [.r 45 (.fld 0 (.t 1)),
    .o 46 (.ld1 (.t 45)),
    .r 47 (.mv (.t 3)),
    .r 48 (.idx 1 (.t 46) (.t 47)),
    .o 49 (.ld1 (.t 48)),
    .r 50 (.mv (.t 4)),
    .r 51 (.idx 1 (.t 49) (.t 50)),
    .o 52 (.ld1 (.t 51)),
    .c 53 (.f 172) [.t 52],
    .r 5 (.mv (.t 53))])
  (.seq (.reg [.r 54 (.mv (.t 5)),
    .r 55 (.bin .neq (.t 54) (.c (.d (.int .i64 0))))])
  (.cond (.t 55)
   (.seq (.reg [.r 56 (.mv (.t 5)),
     .r 2 (.mv (.t 56))])
   .ret)
   .skip))))
 (.reg [.r 43 (.mv (.t 4)),
   .r 44 (.bin .add (.t 43) (.c (.d (.int .i64 1)))),
   .r 4 (.mv (.t 44))])))
def eP:SC:= .block 2 (.loop c9)
def c_:SC:=
 (.seq (.seq (.reg [.r 14 (.mv (.t 3)),
   .r 15 (.fld 0 (.t 1)),
   .o 16 (.ld1 (.t 15)),
   .r 17 (.len (.t 16)),
   .r 18 (.bin .lss (.t 14) (.t 17))])
 (.cond (.t 18)
  .skip
  (.exit 0)))
 (.seq (.block 1 (.seq (.seq (.reg [.r 21 (.fld 0 (.t 1)),
    .o 22 (.ld1 (.t 21)),
    .r 23 (.mv (.t 3)),
    .r 24 (.idx 1 (.t 22) (.t 23)),
    .o 25 (.ld1 (.t 24)),
    .r 26 (.len (.t 25)),
    .r 27 (.bin .eql (.t 26) (.c (.d (.int .i64 0))))])
  (.cond (.t 27)
   (.seq (.reg [.r 2 (.mv (.c (.d (.int .i64 9))))])
   .ret)
   .skip))
  (.seq (.seq (.reg [.r 28 (.fld 0 (.t 1)),
    .o 29 (.ld1 (.t 28)),
    .r 30 (.mv (.t 3)),
    .r 31 (.idx 1 (.t 29) (.t 30)),
    .o 32 (.ld1 (.t 31)),
    .r 33 (.len (.t 32)),
    .r 34 (.bin .gtr (.t 33) (.c (.d (.int .i64 20))))])
  (.cond (.t 34)
   (.seq (.reg [.r 2 (.mv (.c (.d (.int .i64 2))))])
   .ret)
   .skip))
  (.seq (.reg [.r 4 (.mv (.c (.d (.int .i64 0))))])
  eP))))
 (.reg [.r 19 (.mv (.t 3)),
   .r 20 (.bin .add (.t 19) (.c (.d (.int .i64 1)))),
   .r 3 (.mv (.t 20))])))
def iK:SC:= .block 0 (.loop c_)
set_option maxRecDepth 100000 in
set_option maxHeartbeats 40000000 in
noncomputable def dN:(∀ (x0:UInt8),{m:Option (Bool)//∀ r,m=some r->ae Tryz.prog 87 [.int .u8 (x0).toNat] (.bool r)})×(∀ (x0:List UInt8) (x1:UInt8),{m:Option (Bool)//∀ r,m=some r->ae Tryz.prog 88 [.slice (List.map ka x0),.int .u8 (x1).toNat] (.bool r)})×(∀ (x0:List UInt8),{m:Option (Bool)//∀ r,m=some r->ae Tryz.prog 47 [.str x0] (.bool r)})×(∀ (x0:List UInt8),{m:Option (Bool)//∀ r,m=some r->ae Tryz.prog 133 [.str x0] (.bool r)}):=by
 refine⟨?g0, ?g1, ?g2, ?g3⟩
 case' g0=>(intro x0;apply Subtype.mk;intro r hm;apply az Tryz.func87 qk;unfold lN)
 case' g1=>(intro x0 x1;apply Subtype.mk;intro r hm;apply az Tryz.func88 kH;unfold gq)
 case' g2=>(intro x0;apply Subtype.mk;intro r hm;apply az Tryz.func47 xD;unfold se)
 case' g3=>(intro x0;apply Subtype.mk;intro r hm;apply az Tryz.func133 wF;unfold qw)
 all_goals(repeat'(first|with_reducible refine d6 ?_|with_reducible refine dL ?_|with_reducible refine ii ?_|with_reducible refine cd ?_|with_reducible refine cG ?_|with_reducible refine fL ?_|with_reducible refine d8 ?_|with_reducible refine dM ?_|with_reducible refine d7 ?_|with_reducible refine d9 ?_|with_reducible refine eO ?_|with_reducible refine cg ?_|with_reducible refine eh ?_|with_reducible refine fV ?_|((with_reducible apply gy hm);(iterate 2 (simp only[push_cast,seval];rfl));(intro _;rfl);intro e hm)|((with_reducible apply va hm);(iterate 2 (simp only[push_cast,seval];rfl));intro e hm)|((with_reducible apply CQ hm (row:=ka));(iterate 2 (simp only[push_cast,seval];rfl));(focus((repeat'(first|rfl|(with_reducible first|apply ew|apply ex|apply eL)));done));(simp only[push_cast,seval];rfl);(intro _;rfl);intro e hm)|((with_reducible apply j1);(simp only[push_cast,seval];rfl);(first|exact trivial))|((with_reducible apply oW hm);(simp only[push_cast,seval];rfl);rfl;intro v hm;rotate_left;intro v g hm)|((with_reducible apply uz hm);(simp only[push_cast,seval];rfl);rfl;intro v hm;rotate_left;intro v g hm)|((with_reducible apply mb hm);(simp only[push_cast,seval];rfl);(first|apply rg _|apply ni _ _ _|apply mK _ _|apply li _ _|apply nZ _ _);(any_goals((repeat'(first|rfl|(with_reducible first|apply mC)|(with_reducible apply B7;decide)));done));intro x hm)|((with_reducible apply cj hm);(simp only[push_cast,seval];rfl);intro hm;rotate_left;intro hm)|((with_reducible apply fT hm);(focus(simp only[eN,jg,RV.get,push_cast,seval];rfl));(focus((repeat'(first|rfl));done)))|((with_reducible apply gT hm);(simp only[push_cast,seval];rfl))|((with_reducible apply dZ hm);intro r hm)|((with_reducible apply gn hm);intro r hm)|((apply aF (b:=2) (X:=fh) (x:=dC) rfl (fun(c:SV×SV) (s:Int)=>st [(3,c.1),(4,c.2),(5,.d (.int .i64 s))] []) (c:=(_,_)) (s0:=_) hm);(focus(first|(dsimp only;done)));(with_reducible refine dP.mk ?_ ?_))|((apply aF (b:=0) (X:=jE) (x:=dD) rfl (fun(c:SV) (s:Int)=>st [(3,c),(4,.d (.int .i64 s))] []) (c:=_) (s0:=_) hm);(focus(first|(dsimp only;done)));(with_reducible refine dP.mk ?_ ?_))|((apply aF (b:=2) (X:=eP) (x:=c9) rfl (fun(c:SV×SV) (s:Int)=>st [(1,c.1),(3,c.2),(4,.d (.int .i64 s))] []) (c:=(_,_)) (s0:=_) hm);(focus(first|(dsimp only;done)));(with_reducible refine dP.mk ?_ ?_))|((apply aF (b:=0) (X:=iK) (x:=c_) rfl (fun(c:SV) (s:Int)=>st [(1,c),(3,.d (.int .i64 s))] []) (c:=_) (s0:=_) hm);(focus(first|(dsimp only;done)));(with_reducible refine dP.mk ?_ ?_))|((apply ea (s':=_) hm);(focus(first|(dsimp only;done))))|((apply fU (s':=_) hm);(focus(first|(dsimp only;done))))|(((with_reducible apply kQ hm);intro r hm))|(((with_reducible apply go.of);(focus(first|(dsimp only;done)));(focus((intro _;repeat'(first|with_reducible exact fd|with_reducible refine di ?_|with_reducible refine gi ?_|((with_reducible refine jB ?_);intro _)|((with_reducible refine jC ?_);intro _)))));(intro s o hm;first|unfold dC|unfold dD|unfold c9|unfold c_);rotate_left;intro s hm))|(((apply dt;(repeat'(first|with_reducible exact bS|with_reducible exact bT|with_reducible apply bi|((with_reducible apply ck);(focus(first|(simp only[push_cast,seval];rfl)));(focus((repeat'(first|rfl));done)))));done)))))
noncomputable def jF (x0:UInt8):Option (Bool):=(dN.1 x0).1
theorem o8 (x0:UInt8):∀ r,jF x0=some r->ae Tryz.prog 87 [.int .u8 (x0).toNat] (.bool r):=(dN.1 x0).2
noncomputable def eD (x0:List UInt8) (x1:UInt8):Option (Bool):=(dN.2.1 x0 x1).1
theorem kf (x0:List UInt8) (x1:UInt8):∀ r,eD x0 x1=some r->ae Tryz.prog 88 [.slice (List.map ka x0),.int .u8 (x1).toNat] (.bool r):=(dN.2.1 x0 x1).2
noncomputable def o9 (x0:List UInt8):Option (Bool):=(dN.2.2.1 x0).1
theorem wG (x0:List UInt8):∀ r,o9 x0=some r->ae Tryz.prog 47 [.str x0] (.bool r):=(dN.2.2.1 x0).2
noncomputable def nO (x0:List UInt8):Option (Bool):=(dN.2.2.2 x0).1
theorem uG (x0:List UInt8):∀ r,nO x0=some r->ae Tryz.prog 133 [.str x0] (.bool r):=(dN.2.2.2 x0).2
def gz:SC:=
 (.seq (.reg [.r 20 (.bin .lss (.t 19) (.t 18))])
 (.seq (.cond (.t 20)
  .skip
  (.exit 0))
 (.seq (.block 1 (.seq (.reg [.r 21 (.idx 1 (.t 17) (.t 19)),
    .o 22 (.ld1 (.t 21)),
    .r 5 (.mv (.t 22))])
  (.seq (.reg [.r 23 (.mv (.t 5)),
    .c 24 (.f 87) [.t 23],
    .r 25 (.not (.t 24))])
  (.cond (.t 25)
   (.seq (.reg [.r 2 (.mv (.c (.d (.int .i64 3))))])
   .ret)
   .skip))))
 (.reg [.r 26 (.bin .add (.t 19) (.c (.d (.int .i64 1)))),
   .r 19 (.mv (.t 26))]))))
def j2:SC:= .block 0 (.loop gz)
def gA:SC:=
 (.seq (.reg [.r 43 (.bin .lss (.t 42) (.t 41))])
 (.seq (.cond (.t 43)
  .skip
  (.exit 2))
 (.seq (.block 3 (.seq (.reg [.r 44 (.mv (.t 42)),
    .r 45 (.idx 1 (.t 40) (.t 42)),
    .o 46 (.ld1 (.t 45)),
    .r 6 (.mv (.t 44)),
    .r 7 (.mv (.t 46))])
  (.seq (.reg [.r 47 (.mv (.t 3)),
    .r 48 (.mv (.t 6)),
    .r 49 (.mv (.t 3)),
    .r 50 (.len (.t 49)),
    .r 51 (.mins (.t 48) [.t 50]),
    .r 52 (.slc 1 (.t 47) none (some (.t 51))),
    .r 53 (.mv (.t 7)),
    .c 54 (.f 88) [.t 52,.t 53]])
  (.cond (.t 54)
   (.seq (.reg [.r 2 (.mv (.c (.d (.int .i64 7))))])
   .ret)
   .skip))))
 (.reg [.r 55 (.bin .add (.t 42) (.c (.d (.int .i64 1)))),
   .r 42 (.mv (.t 55))]))))
def j3:SC:= .block 2 (.loop gA)
def lO:SC:=
 (.seq (.reg [.r 1 (.boxI (.t 0)),
   .r 2 (.mv (.c (.d (.int .i64 0))))])
 (.seq (.reg [.r 8 (.fld 0 (.t 1)),
   .o 9 (.ld1 (.t 8)),
   .r 10 (.fld 1 (.t 1)),
   .o 11 (.ld1 (.t 10)),
   .r 12 (.fld 2 (.t 1)),
   .o 13 (.ld1 (.t 12)),
   .r 14 (.fld 4 (.t 1)),
   .o 15 (.ld1 (.t 14)),
   .r 16 (.bslice 1 [.t 9,.t 11,.t 13,.t 15]),
   .r 3 (.mv (.t 16))])
 (.seq (.seq (.reg [.r 17 (.mv (.t 3)),
   .r 18 (.len (.t 17)),
   .r 19 (.mv (.c (.d (.int .i64 0))))])
 j2)
 (.seq (.seq (.reg (.r 27 (.fld 3 (.t 1)):: .o 28 (.ld1 (.t 27)):: .r 29 (.bin .neq (.t 28) (.c (.d (.int .u8 0)))):: .r 30 (.mv (.t 29))::cD [31,32,33,34] 30 true (.r 31 (.fld 3 (.t 1)):: .r 32 (.ld1 (.t 31)):: .c 33 (.f 87) [.t 32]:: .r 34 (.not (.t 33))::[]) (.r 35 (.pick (.t 30) (.t 34) (.c (.d (.bool false))))::[])))
 (.cond (.t 35)
  (.seq (.reg [.r 2 (.mv (.c (.d (.int .i64 3))))])
  .ret)
  .skip))
 (.seq (.seq (.reg [.r 36 (.mv (.t 3)),
   .r 37 (.fld 3 (.t 1)),
   .o 38 (.ld1 (.t 37)),
   .r 39 (.bslice 1 [.t 38]),
   .w 40 (.app 5 1 (.t 36) (.t 39)),
   .r 41 (.len (.t 40)),
   .r 42 (.mv (.c (.d (.int .i64 0))))])
 j3)
 (.seq (.reg [.r 2 (.mv (.c (.d (.int .i64 0))))])
 .ret))))))
theorem ql:fits Tryz.prog 46 Tryz.f46 lO [.t 2] 1=true:=oK
def mm:SC:=
 (.seq (.reg [.r 2 (.mv (.c (.d (.int .i64 0))))])
 (.seq (.seq (.reg [.r 3 (.mv (.t 0)),
   .r 4 (.lenT (.t 3)),
   .r 5 (.bin .gtr (.t 4) (.c (.d (.int .i64 1000))))])
 (.cond (.t 5)
  (.seq (.reg [.r 2 (.mv (.c (.d (.int .i64 2))))])
  .ret)
  .skip))
 (.seq (.seq (.reg [.r 6 (.mv (.t 0)),
   .c 7 (.f 133) [.t 6],
   .r 8 (.not (.t 7))])
 (.cond (.t 8)
  (.seq (.reg [.r 2 (.mv (.c (.d (.int .i64 3))))])
  .ret)
  .skip))
 (.seq (.reg [.r 2 (.mv (.c (.d (.int .i64 0))))])
 .ret))))
theorem rh:fits Tryz.prog 91 Tryz.f91 mm [.t 2] 1=true:=oK
def eb:SC:=
 (.seq (.seq (.reg [.r 13 (.mv (.t 3)),
   .r 14 (.fld 1 (.t 1)),
   .o 15 (.ld1 (.t 14)),
   .r 16 (.len (.t 15)),
   .r 17 (.bin .lss (.t 13) (.t 16))])
 (.cond (.t 17)
  .skip
  (.exit 0)))
 (.seq (.block 1 (.seq (.reg [.r 20 (.fld 1 (.t 1)),
    .o 21 (.ld1 (.t 20)),
    .r 22 (.mv (.t 3)),
    .r 23 (.idx 1 (.t 21) (.t 22)),
    .o 24 (.ldA 1 (.t 23)),
    .c 25 (.f 149) [.t 24],
    .r 4 (.mv (.t 25))])
  (.seq (.reg [.r 26 (.mv (.t 4)),
    .r 27 (.bin .neq (.t 26) (.c (.d (.int .i64 0))))])
  (.cond (.t 27)
   (.seq (.reg [.r 28 (.mv (.t 4)),
     .r 2 (.mv (.t 28))])
   .ret)
   .skip))))
 (.reg [.r 18 (.mv (.t 3)),
   .r 19 (.bin .add (.t 18) (.c (.d (.int .i64 1)))),
   .r 3 (.mv (.t 19))])))
def kg:SC:= .block 0 (.loop eb)
set_option maxRecDepth 100000 in
set_option maxHeartbeats 40000000 in
noncomputable def iZ:(∀ (x0:bQ),{m:Option (Int)//∀ r,m=some r->ae Tryz.prog 46 [.agg (bJ x0)] (.int .i64 r)})×(∀ (x0:List UInt8),{m:Option (Int)//∀ r,m=some r->ae Tryz.prog 91 [.str x0] (.int .i64 r)}):=by
 refine⟨?g0, ?g1⟩
 case' g0=>(intro x0;apply Subtype.mk;intro r hm;apply az Tryz.func46 ql;unfold lO)
 case' g1=>(intro x0;apply Subtype.mk;intro r hm;apply az Tryz.func91 rh;unfold mm)
 all_goals(repeat'(first|with_reducible refine d6 ?_|with_reducible refine dL ?_|with_reducible refine cd ?_|with_reducible refine cG ?_|with_reducible refine fL ?_|with_reducible refine d8 ?_|with_reducible refine dM ?_|with_reducible refine d7 ?_|with_reducible refine d9 ?_|with_reducible refine eO ?_|with_reducible refine cg ?_|with_reducible refine eh ?_|with_reducible refine fV ?_|((with_reducible apply gy hm);(iterate 2 (simp only[push_cast,seval];rfl));(intro _;rfl);intro e hm)|((with_reducible apply rZ hm);(iterate 3 (simp only[push_cast,seval];rfl));intro e hm)|((with_reducible apply CQ hm (row:=ka));(iterate 2 (simp only[push_cast,seval];rfl));(focus((repeat'(first|rfl|(with_reducible first|apply ew|apply ex|apply eL)));done));(simp only[push_cast,seval];rfl);(intro _;rfl);intro e hm)|((with_reducible apply Ht hm (row:=ka));(iterate 2 (simp only[push_cast,seval];rfl));(focus((repeat'(first|rfl|(with_reducible first|apply ew|apply ex|apply eL)));done));(iterate 2 (simp only[push_cast,seval];rfl));intro e hm)|((with_reducible apply j1);(simp only[push_cast,seval];rfl);(first|exact trivial))|((with_reducible apply Hp hm);(iterate 2 (simp only[push_cast,seval];rfl));(intro _;rfl);intro e hm)|((with_reducible apply oW hm);(simp only[push_cast,seval];rfl);rfl;intro v hm;rotate_left;intro v g hm)|((with_reducible apply mb hm);(simp only[push_cast,seval];rfl);(first|apply o8 _|apply kf _ _|apply uG _);(any_goals((repeat'(first|rfl));done));intro x hm)|((with_reducible apply I6 hm (row:=ka));(iterate 5 (simp only[push_cast,seval];rfl));(focus((repeat'(first|rfl|(with_reducible first|apply ew|apply ex|apply eL)));done));(focus((repeat'(first|rfl|(with_reducible first|apply ew|apply ex|apply eL)));done));rfl;decide;(intro _;rfl);intro hm)|((with_reducible apply cj hm);(simp only[push_cast,seval];rfl);intro hm;rotate_left;intro hm)|((with_reducible apply fT hm);(focus(simp only[eN,jg,RV.get,push_cast,seval];rfl));(focus((repeat'(first|rfl));done)))|((with_reducible apply gT hm);(simp only[push_cast,seval];rfl))|((with_reducible apply dZ hm);intro r hm)|((with_reducible apply gn hm);intro r hm)|((apply aF (b:=0) (X:=j2) (x:=gz) rfl (fun(c:SV×SV×SV×SV) (s:Int)=>st [(1,c.1),(3,c.2.1),(17,c.2.2.1),(18,c.2.2.2),(19,.d (.int .i64 s))] []) (c:=(_,_,_,_)) (s0:=_) hm);(focus(first|(dsimp only;done)));(with_reducible refine dP.mk ?_ ?_))|((apply aF (b:=2) (X:=j3) (x:=gA) rfl (fun(c:SV×Ch×SV) (s:Int)=>st [(3,c.1),(40,.vec 40),(41,c.2.2),(42,.d (.int .i64 s))] [(40,c.2.1)]) (c:=(_,_,_)) (s0:=_) hm);(focus(first|(dsimp only;done)));(with_reducible refine dP.mk ?_ ?_))|((apply aF (b:=0) (X:=kg) (x:=eb) rfl (fun(c:SV) (s:Int)=>st [(1,c),(3,.d (.int .i64 s))] []) (c:=_) (s0:=_) hm);(focus(first|(dsimp only;done)));(with_reducible refine dP.mk ?_ ?_))|((apply ea (s':=_) hm);(focus(first|(dsimp only;done))))|((apply fU (s':=_) hm);(focus(first|(dsimp only;done))))|(((with_reducible apply kQ hm);intro r hm))|(((with_reducible apply go.of);(focus(first|(dsimp only;done)));(focus((intro _;repeat'(first|with_reducible exact fd|with_reducible refine di ?_))));(intro s o hm;first|unfold gz|unfold gA|unfold eb);rotate_left;intro s hm))|(((apply dt;(repeat'(first|with_reducible exact bS|with_reducible exact bT|with_reducible apply bi|with_reducible apply c8|((with_reducible apply ck);(focus(first|(simp only[push_cast,seval];rfl)));(focus((repeat'(first|rfl));done)))|((with_reducible apply gj);(focus(first|(simp only[push_cast,seval];rfl)));(first|with_reducible exact bk rfl))));done)))))
noncomputable def fj (x0:bQ):Option (Int):=(iZ.1 x0).1
theorem o_ (x0:bQ):∀ r,fj x0=some r->ae Tryz.prog 46 [.agg (bJ x0)] (.int .i64 r):=(iZ.1 x0).2
noncomputable def kh (x0:List UInt8):Option (Int):=(iZ.2 x0).1
theorem qm (x0:List UInt8):∀ r,kh x0=some r->ae Tryz.prog 91 [.str x0] (.int .i64 r):=(iZ.2 x0).2
def fW:SC:=
 (.seq (.reg [.r 32 (.bin .lss (.t 31) (.t 30))])
 (.seq (.cond (.t 32)
  .skip
  (.exit 2))
 (.seq (.block 3 (.seq (.reg [.r 33 (.idx 1 (.t 29) (.t 31)),
    .o 34 (.ld1 (.t 33)),
    .r 6 (.mv (.t 34))])
  (.seq (.reg [.r 35 (.mv (.t 6)),
    .c 36 (.f 91) [.t 35],
    .r 7 (.mv (.t 36))])
  (.seq (.reg [.r 37 (.mv (.t 7)),
    .r 38 (.bin .neq (.t 37) (.c (.d (.int .i64 0))))])
  (.cond (.t 38)
   (.seq (.reg [.r 39 (.mv (.t 7)),
     .r 2 (.mv (.t 39))])
   .ret)
   .skip)))))
 (.reg [.r 40 (.bin .add (.t 31) (.c (.d (.int .i64 1)))),
   .r 31 (.mv (.t 40))]))))
def i6:SC:= .block 2 (.loop fW)
def fY:SC:=
 (.seq (.reg [.r 20 (.bin .lss (.t 19) (.t 18))])
 (.seq (.cond (.t 20)
  .skip
  (.exit 0))
 (.seq (.block 1 (.seq (.reg [.r 21 (.idx 1 (.t 17) (.t 19)),
    .o 22 (.ld1 (.t 21)),
    .r 4 (.mv (.t 22))])
  (.seq (.seq (.reg [.r 23 (.mv (.t 4)),
    .r 24 (.len (.t 23)),
    .r 25 (.bin .eql (.t 24) (.c (.d (.int .i64 0))))])
  (.cond (.t 25)
   (.seq (.reg [.r 2 (.mv (.c (.d (.int .i64 9))))])
   .ret)
   .skip))
  (.seq (.seq (.reg [.r 26 (.mv (.t 4)),
    .r 27 (.len (.t 26)),
    .r 28 (.bin .gtr (.t 27) (.c (.d (.int .i64 20))))])
  (.cond (.t 28)
   (.seq (.reg [.r 2 (.mv (.c (.d (.int .i64 2))))])
   .ret)
   .skip))
  (.seq (.reg [.r 29 (.mv (.t 4)),
    .r 30 (.len (.t 29)),
    .r 31 (.mv (.c (.d (.int .i64 0))))])
  i6)))))
 (.reg [.r 41 (.bin .add (.t 19) (.c (.d (.int .i64 1)))),
   .r 19 (.mv (.t 41))]))))
def i7:SC:= .block 0 (.loop fY)
def kI:SC:=
 (.seq (.reg [.r 1 (.boxI (.t 0)),
   .r 2 (.mv (.c (.d (.int .i64 0))))])
 (.seq (.seq (.reg [.r 8 (.fld 0 (.t 1)),
   .o 9 (.ld1 (.t 8)),
   .r 10 (.len (.t 9)),
   .r 11 (.bin .eql (.t 10) (.c (.d (.int .i64 0))))])
 (.cond (.t 11)
  (.seq (.reg [.r 2 (.mv (.c (.d (.int .i64 9))))])
  .ret)
  .skip))
 (.seq (.seq (.reg [.r 12 (.fld 0 (.t 1)),
   .o 13 (.ld1 (.t 12)),
   .r 14 (.len (.t 13)),
   .r 15 (.bin .gtr (.t 14) (.c (.d (.int .i64 20))))])
 (.cond (.t 15)
  (.seq (.reg [.r 2 (.mv (.c (.d (.int .i64 2))))])
  .ret)
  .skip))
 (.seq (.seq (.reg [.r 16 (.fld 0 (.t 1)),
   .o 17 (.ld1 (.t 16)),
   .r 18 (.len (.t 17)),
   .r 19 (.mv (.c (.d (.int .i64 0))))])
 i7)
 (.seq (.reg [.r 2 (.mv (.c (.d (.int .i64 0))))])
 .ret)))))
theorem ow:fits Tryz.prog 48 Tryz.f48 kI [.t 2] 1=true:=oK
def cQ:SC:=
 (.seq (.seq (.reg [.r 8 (.mv (.t 3)),
   .r 9 (.mv (.t 0)),
   .r 10 (.len (.t 9)),
   .r 11 (.bin .lss (.t 8) (.t 10))])
 (.cond (.t 11)
  .skip
  (.exit 0)))
 (.seq (.block 1 (.seq (.reg [.r 14 (.mv (.t 0)),
    .r 15 (.mv (.t 3)),
    .r 16 (.idx 2 (.t 14) (.t 15)),
    .o 17 (.ldA 2 (.t 16)),
    .c 18 (.f 104) [.t 17],
    .r 4 (.mv (.t 18))])
  (.seq (.reg [.r 19 (.mv (.t 4)),
    .r 20 (.bin .neq (.t 19) (.c (.d (.int .i64 0))))])
  (.cond (.t 20)
   (.seq (.reg [.r 21 (.mv (.t 4)),
     .r 2 (.mv (.t 21))])
   .ret)
   .skip))))
 (.reg [.r 12 (.mv (.t 3)),
   .r 13 (.bin .add (.t 12) (.c (.d (.int .i64 1)))),
   .r 3 (.mv (.t 13))])))
def ix:SC:= .block 0 (.loop cQ)
set_option maxRecDepth 100000 in
set_option maxHeartbeats 40000000 in
noncomputable def pa:(∀ (x0:ax),{m:Option (Int)//∀ r,m=some r->ae Tryz.prog 48 [.agg (ap x0)] (.int .i64 r)}):=by
 (intro x0;apply Subtype.mk;intro r hm;apply az Tryz.func48 ow;unfold kI)
 repeat'(first|with_reducible refine d6 ?_|with_reducible refine dL ?_|with_reducible refine cd ?_|with_reducible refine cG ?_|with_reducible refine fL ?_|with_reducible refine d8 ?_|with_reducible refine dM ?_|with_reducible refine d7 ?_|with_reducible refine d9 ?_|with_reducible refine eO ?_|with_reducible refine cg ?_|with_reducible refine eh ?_|with_reducible refine fV ?_|((with_reducible apply gy hm);(iterate 2 (simp only[push_cast,seval];rfl));(intro _;rfl);intro e hm)|((with_reducible apply j1);(simp only[push_cast,seval];rfl);(first|exact trivial))|((with_reducible apply mb hm);(simp only[push_cast,seval];rfl);(first|apply qm _);(any_goals((repeat'(first|rfl));done));intro x hm)|((with_reducible apply cj hm);(simp only[push_cast,seval];rfl);intro hm;rotate_left;intro hm)|((with_reducible apply fT hm);(focus(simp only[eN,jg,RV.get,push_cast,seval];rfl));(focus((repeat'(first|rfl));done)))|((with_reducible apply dZ hm);intro r hm)|((with_reducible apply gn hm);intro r hm)|((apply aF (b:=2) (X:=i6) (x:=fW) rfl (fun(c:SV×SV×SV×SV×SV) (s:Int)=>st [(17,c.1),(18,c.2.1),(19,c.2.2.1),(29,c.2.2.2.1),(30,c.2.2.2.2),(31,.d (.int .i64 s))] []) (c:=(_,_,_,_,_)) (s0:=_) hm);(focus(first|(dsimp only;done)));(with_reducible refine dP.mk ?_ ?_))|((apply aF (b:=0) (X:=i7) (x:=fY) rfl (fun(c:SV×SV) (s:Int)=>st [(17,c.1),(18,c.2),(19,.d (.int .i64 s))] []) (c:=(_,_)) (s0:=_) hm);(focus(first|(dsimp only;done)));(with_reducible refine dP.mk ?_ ?_))|((apply aF (b:=0) (X:=ix) (x:=cQ) rfl (fun(c:SV) (s:Int)=>st [(0,c),(3,.d (.int .i64 s))] []) (c:=_) (s0:=_) hm);(focus(first|(dsimp only;done)));(with_reducible refine dP.mk ?_ ?_))|((apply ea (s':=_) hm);(focus(first|(dsimp only;done))))|((apply fU (s':=_) hm);(focus(first|(dsimp only;done))))|(((with_reducible apply kQ hm);intro r hm))|(((with_reducible apply go.of);(focus(first|(dsimp only;done)));(focus((intro _;repeat'(first|with_reducible exact fd|with_reducible refine di ?_|with_reducible refine gi ?_|((with_reducible refine jB ?_);intro _)|((with_reducible refine jC ?_);intro _)))));(intro s o hm;first|unfold fW|unfold fY|unfold cQ);rotate_left;intro s hm))|(((apply dt;(repeat'(first|with_reducible exact bS|with_reducible exact bT|with_reducible apply bi|((with_reducible apply ck);(focus(first|(simp only[push_cast,seval];rfl)));(focus((repeat'(first|rfl));done)))));done))))
noncomputable def il (x0:ax):Option (Int):=(pa x0).1
theorem nP (x0:ax):∀ r,il x0=some r->ae Tryz.prog 48 [.agg (ap x0)] (.int .i64 r):=(pa x0).2
def fE:SC:=
 (.seq (.reg [.r 29 (.bin .lss (.t 28) (.t 27))])
 (.seq (.cond (.t 29)
  .skip
  (.exit 2))
 (.seq (.block 3 (.seq (.reg [.r 30 (.idx 1 (.t 26) (.t 28)),
    .o 31 (.ldA 1 (.t 30)),
    .w 6 (.boxM (.c (.agg [.nils]))),
    .w 0 (.st 1 (.t 6) (.t 31))])
  (.seq (.reg [.o 32 (.ldA 1 (.t 6)),
    .c 33 (.f 48) [.t 32],
    .r 7 (.mv (.t 33))])
  (.seq (.reg [.r 34 (.mv (.t 7)),
    .r 35 (.bin .neq (.t 34) (.c (.d (.int .i64 0))))])
  (.cond (.t 35)
   (.seq (.reg [.r 36 (.mv (.t 7)),
     .r 2 (.mv (.t 36))])
   .ret)
   .skip)))))
 (.reg [.r 37 (.bin .add (.t 28) (.c (.d (.int .i64 1)))),
   .r 28 (.mv (.t 37))]))))
def iy:SC:= .block 2 (.loop fE)
def fF:SC:=
 (.seq (.reg [.r 14 (.bin .lss (.t 13) (.t 12))])
 (.seq (.cond (.t 14)
  .skip
  (.exit 0))
 (.seq (.block 1 (.seq (.reg [.r 15 (.idx 2 (.t 11) (.t 13)),
    .o 16 (.ldA 2 (.t 15)),
    .w 4 (.boxM (.c (.agg [.d (.str []),.nils]))),
    .w 0 (.st 2 (.t 4) (.t 16))])
  (.seq (.seq (.reg [.r 17 (.fld 0 (.t 4)),
    .o 18 (.ld1 (.t 17)),
    .c 19 (.f 47) [.t 18],
    .r 20 (.not (.t 19))])
  (.cond (.t 20)
   (.seq (.reg [.r 2 (.mv (.c (.d (.int .i64 5))))])
   .ret)
   .skip))
  (.seq (.seq (.reg [.r 21 (.fld 1 (.t 4)),
    .o 22 (.ld1 (.t 21)),
    .r 23 (.len (.t 22)),
    .r 24 (.bin .gtr (.t 23) (.c (.d (.int .i64 50))))])
  (.cond (.t 24)
   (.seq (.reg [.r 2 (.mv (.c (.d (.int .i64 2))))])
   .ret)
   .skip))
  (.seq (.reg [.r 25 (.fld 1 (.t 4)),
    .o 26 (.ld1 (.t 25)),
    .r 27 (.len (.t 26)),
    .r 28 (.mv (.c (.d (.int .i64 0))))])
  iy)))))
 (.reg [.r 38 (.bin .add (.t 13) (.c (.d (.int .i64 1)))),
   .r 13 (.mv (.t 38))]))))
def iz:SC:= .block 0 (.loop fF)
def j4:SC:=
 (.seq (.reg [.r 2 (.mv (.c (.d (.int .i64 0))))])
 (.seq (.seq (.reg [.r 8 (.mv (.t 0)),
   .r 9 (.len (.t 8)),
   .r 10 (.bin .gtr (.t 9) (.c (.d (.int .i64 2000))))])
 (.cond (.t 10)
  (.seq (.reg [.r 2 (.mv (.c (.d (.int .i64 2))))])
  .ret)
  .skip))
 (.seq (.seq (.reg [.r 11 (.mv (.t 0)),
   .r 12 (.len (.t 11)),
   .r 13 (.mv (.c (.d (.int .i64 0))))])
 iz)
 (.seq (.reg [.r 2 (.mv (.c (.d (.int .i64 0))))])
 .ret))))
theorem nQ:fits Tryz.prog 20 Tryz.f20 j4 [.t 2] 1=true:=oK
set_option maxRecDepth 100000 in
set_option maxHeartbeats 40000000 in
noncomputable def pb:(∀ (x0:List aa),{m:Option (Int)//∀ r,m=some r->ae Tryz.prog 20 [.slice (List.map af x0)] (.int .i64 r)}):=by
 (intro x0;apply Subtype.mk;intro r hm;apply az Tryz.func20 nQ;unfold j4)
 repeat'(first|with_reducible refine d6 ?_|with_reducible refine dL ?_|with_reducible refine cd ?_|with_reducible refine cG ?_|with_reducible refine fL ?_|with_reducible refine d8 ?_|with_reducible refine dM ?_|with_reducible refine d7 ?_|with_reducible refine d9 ?_|with_reducible refine eO ?_|with_reducible refine cg ?_|with_reducible refine eh ?_|with_reducible refine fV ?_|((with_reducible apply gy hm);(iterate 2 (simp only[push_cast,seval];rfl));(intro _;rfl);intro e hm)|((with_reducible apply j1);(simp only[push_cast,seval];rfl);(first|exact trivial))|((with_reducible apply mb hm);(simp only[push_cast,seval];rfl);(first|apply wG _|apply nP _);(any_goals((repeat'(first|rfl));done));intro x hm)|((with_reducible apply zg);(simp only[push_cast,seval];rfl);(first|exact trivial))|((with_reducible apply cj hm);(simp only[push_cast,seval];rfl);intro hm;rotate_left;intro hm)|((with_reducible apply fT hm);(focus(simp only[eN,jg,RV.get,push_cast,seval];rfl));(focus((repeat'(first|rfl));done)))|((with_reducible apply dZ hm);intro r hm)|((with_reducible apply gn hm);intro r hm)|((apply aF (b:=2) (X:=iy) (x:=fE) rfl (fun(c:SV×SV×SV×SV×SV) (s:Int)=>st [(11,c.1),(12,c.2.1),(13,c.2.2.1),(26,c.2.2.2.1),(27,c.2.2.2.2),(28,.d (.int .i64 s))] []) (c:=(_,_,_,_,_)) (s0:=_) hm);(focus(first|(dsimp only;done)));(with_reducible refine dP.mk ?_ ?_))|((apply aF (b:=0) (X:=iz) (x:=fF) rfl (fun(c:SV×SV) (s:Int)=>st [(11,c.1),(12,c.2),(13,.d (.int .i64 s))] []) (c:=(_,_)) (s0:=_) hm);(focus(first|(dsimp only;done)));(with_reducible refine dP.mk ?_ ?_))|((apply ea (s':=_) hm);(focus(first|(dsimp only;done))))|((apply fU (s':=_) hm);(focus(first|(dsimp only;done))))|(((with_reducible apply kQ hm);intro r hm))|(((with_reducible apply go.of);(focus(first|(dsimp only;done)));(focus((intro _;repeat'(first|with_reducible exact fd|with_reducible refine di ?_|with_reducible refine gi ?_|((with_reducible refine jB ?_);intro _)|((with_reducible refine jC ?_);intro _)))));(intro s o hm;first|unfold fE|unfold fF);rotate_left;intro s hm))|(((apply dt;(repeat'(first|with_reducible exact bS|with_reducible exact bT|with_reducible apply bi|((with_reducible apply ck);(focus(first|(simp only[push_cast,seval];rfl)));(focus((repeat'(first|rfl));done)))));done))))
noncomputable def gV (x0:List aa):Option (Int):=(pb x0).1
theorem i8 (x0:List aa):∀ r,gV x0=some r->ae Tryz.prog 20 [.slice (List.map af x0)] (.int .i64 r):=(pb x0).2
end Go.Proofs.YtgmnipfafmphaaaGreatDoor
namespace Go.Proofs.YtgmnipfafmphaaaGreatDoor
set_option linter.unusedSimpArgs false
set_option linter.unusedVariables false
open Go.RowKit Go.Lib
theorem kN:∀ (l:List DV),SV.toDVs (dR l)=some l
 |[]=>rfl
 |d::l=>by
  have ih:=kN l
  simp only[dR,Lh,SV.toDVs,SV.toDV] at ih⊢
  rw[ih]
end Go.Proofs.YtgmnipfafmphaaaGreatDoor
namespace Go.Proofs.YtgmnipfafmphaaaGreatDoor
set_option linter.unusedSimpArgs false
set_option linter.unusedVariables false
open Go.RowKit Go.Lib
theorem su:∀ (rows:List (List DV)),(rows.map dR).flatten=dR rows.flatten
 |[]=>rfl
 |r::rows=>by
  have ih:=su rows
  simp only[dR,Lh,LC,Mw] at ih⊢
  rw[ih]
theorem FZ {P:Program} {f:FuncId} {args:List DV} {rows:List (List DV)} {size e:Nat} (hcall:iu P f=true) (hall:∀ r∈rows,r.length=size)
  (h:∀ (w:World) (M:Nat->Prop) (vs:List Value),(∀ b,M b->b<w.heap.size)->an w M args vs->Calls P f vs.toArray w fun ev w'=>∃ v news,ev= .returned v/\w'.ownsRow w.heap.size e size v rows.length news/\an w M rows.flatten news/\(∀ u∈news,u.oneCell'=true)/\Below w.heap.size w w'):
  bI P f (args.map .d) (.own (.sl e (List.replicate size .sh)) (.slice rows)) (args.map .d):=by
 refine⟨hcall,fun w M vs F hM hF hn hv _ _=> ?_⟩
 have hno:SV.noOwns (args.map SV.d)=true:=hJ _ _ (kN args)
 obtain⟨hS,rfl⟩:=aj.to_S _ _ _ hno hv
 have hR:=ai.toDVs _ _ _ hS (kN args)
 refine(h w _ vs (fun b hb=>by rcases hb with hb|hb;exact(hM b hb).1;cases hb) hR).mono ?_
 rintro ev w' ⟨v,news,rfl,ho,hnews,h1,hB⟩
 have hfresh:∀ b∈ed v,w.heap.size<=b/\b<w'.heap.size:=by
  intro b hb
  rcases ho.2 with⟨rfl,_⟩|⟨g,cap,cur,rfl,hb2,hg,_⟩
  ·simp[ed,oo] at hb
  ·simp[ed,oo] at hb
   subst hb
   exact⟨hb2,(Lo.1 hg).1⟩
 have hext:gh w (fun b=>M b\/b∈([]:List Nat)) w' (fun b=>M b\/b∈[]++ed v):=⟨hB.size,fun b hb hm=>⟨hB.block b hb,fun hm'=>by
  rcases hm' with hm'|hm'
  ·exact hm (.inl hm')
  ·have:=(hfresh b (by simpa using hm')).1;omega⟩⟩
 refine⟨v,[],ed v,rfl,aj.of_S _ _ (ai.of_d (hR.ext hext)), ?_, ?_, ?_,sG.of_below hB⟩
 ·unfold ao dz
  refine⟨rows,news,[],rfl,⟨by simpa using ho.1, ?_⟩,h1,by simpa using hall, ?_,by simp⟩
  ·rcases ho.2 with hn|⟨g,cap,cur,hv,hb,rest⟩
   ·exact .inl hn
   ·simp only[Ll]
    exact .inr ⟨g,cap,cur,hv,LT _,rest⟩
  ·refine(gP (κ:=κ0) (by simpa using hall)).1 ?_
   have e1:rows.map (bW (List.replicate size .sh))=rows.map dR:=LS fun r hr=>by
    have:=lg (row:=fun _:Unit=>r) (n:=size) (fun _=>hall r hr) [()]
    simpa[bH] using this
   rw[e1,su]
   exact aj.of_S _ _ (ai.of_d (hnews.ext hext))
 ·cases hv':oo v with
  |none=>simp[ed,hv']
  |some b=>simp[ed,hv']
 ·intro b hb
  have:=hfresh b (by simpa using hb)
  exact⟨.inr this.1,this.2⟩
end Go.Proofs.YtgmnipfafmphaaaGreatDoor
namespace Go.Proofs.YtgmnipfafmphaaaGreatDoor
set_option linter.unusedSimpArgs false
set_option linter.unusedVariables false
open Go.RowKit Go.Lib
theorem wZ {w:World} {n m e s k:Nat} {v:Value} {xs:List Value} (h:n<=m) (ho:w.ownsRow m e s v k xs):w.ownsRow n e s v k xs:=by
 refine⟨ho.1, ?_⟩
 rcases ho.2 with hn|⟨g,cap,cur,hv,hb,rest⟩
 ·exact .inl hn
 ·exact .inr ⟨g,cap,cur,hv,LO h hb,rest⟩
theorem DR {P:Program} {f:FuncId} {args:List DV} {rows:List (List DV)} {size e:Nat} {n:Int} (hcall:iu P f=true) (hall:∀ r∈rows,r.length=size)
  (h:∀ (w:World) (M:Nat->Prop) (vs:List Value),(∀ b,M b->b<w.heap.size)->an w M args vs->oF w->Calls P f vs.toArray w fun ev w'=>∃ v news,ev= .returned (.tuple #[v,.int .i64 n])/\w'.ownsRow w.heap.size e size v rows.length news/\an w M rows.flatten news/\(∀ u∈news,u.oneCell'=true)/\Below w.heap.size w w'):
  bI P f (args.map .d) (.tup [.own (.sl e (List.replicate size .sh)) (.slice rows),.d (.int .i64 n)]) (args.map .d):=by
 refine⟨hcall,fun w M vs F hM hF hn hv hg _=> ?_⟩
 have hno:SV.noOwns (args.map SV.d)=true:=hJ _ _ (kN args)
 obtain⟨hS,rfl⟩:=aj.to_S _ _ _ hno hv
 have hR:=ai.toDVs _ _ _ hS (kN args)
 refine(h w _ vs (fun b hb=>by rcases hb with hb|hb;exact(hM b hb).1;cases hb) hR hg).mono ?_
 rintro ev w' ⟨v,news,rfl,ho,hnews,h1,hB⟩
 have hfresh:∀ b∈ed v,w.heap.size<=b/\b<w'.heap.size:=by
  intro b hb
  rcases ho.2 with⟨rfl,_⟩|⟨g,cap,cur,rfl,hb2,hg,_⟩
  ·simp[ed,oo] at hb
  ·simp[ed,oo] at hb
   subst hb
   exact⟨hb2,(Lo.1 hg).1⟩
 have hext:gh w (fun b=>M b\/b∈([]:List Nat)) w' (fun b=>M b\/b∈[]++ed v):=⟨hB.size,fun b hb hm=>⟨hB.block b hb,fun hm'=>by
  rcases hm' with hm'|hm'
  ·exact hm (.inl hm')
  ·have:=(hfresh b (by simpa using hm')).1;omega⟩⟩
 refine⟨_,[],ed v,rfl,aj.of_S _ _ (ai.of_d (hR.ext hext)), ?_, ?_, ?_,sG.of_below hB⟩
 ·unfold ao
  refine⟨[v,.int .i64 n],rfl, ?_⟩
  simp only[aj]
  refine⟨v,_,ed v,[],rfl,(Lr _).symm, ?_,_,_,[],[],rfl,rfl, ?_,rfl,rfl⟩
  rotate_left
  ·unfold ao;exact⟨rfl,by simp only[ag,aJ]⟩
  unfold ao dz
  refine⟨rows,news,[],rfl,⟨by simpa using ho.1, ?_⟩,h1,by simpa using hall, ?_,by simp⟩
  ·rcases ho.2 with hn|⟨g,cap,cur,hv,hb,rest⟩
   ·exact .inl hn
   ·simp only[Ll]
    exact .inr ⟨g,cap,cur,hv,LT _,rest⟩
  ·refine(gP (κ:=κ0) (by simpa using hall)).1 ?_
   have e1:rows.map (bW (List.replicate size .sh))=rows.map dR:=LS fun r hr=>by
    have:=lg (row:=fun _:Unit=>r) (n:=size) (fun _=>hall r hr) [()]
    simpa[bH] using this
   rw[e1,su]
   exact aj.of_S _ _ (ai.of_d (hnews.ext hext))
 ·cases hv':oo v with
  |none=>simp[ed,hv']
  |some b=>simp[ed,hv']
 ·intro b hb
  have:=hfresh b (by simpa using hb)
  exact⟨.inr this.1,this.2⟩
end Go.Proofs.YtgmnipfafmphaaaGreatDoor
namespace Go.Proofs.YtgmnipfafmphaaaGreatDoor
set_option linter.unusedSimpArgs false
set_option linter.unusedVariables false
open Go.RowKit Go.Shelf Go.Lib
def kw (x:bQ):List UInt8:=[77,82,75,x.fElement,x.fPart,x.fRepeat,if x.fEscape=0 then 32 else x.fEscape,x.fEnd]
noncomputable def gc (x0:bQ):Option (List UInt8×Int):=(fj x0).bind fun c=>if c=0 then some (kw x0,0) else some ([],c)
theorem tE (w:World) (C:Array Value) (e:TypeId) (m:Nat×Nat) (j:Nat) (u:Value) (h:C.toList[j]?=some u):(w.alloc (.cells C e m)).cell? ((⟨w.heap.size,0,none⟩:Addr).add j)=some u:=by
 have hh:(w.alloc (.cells C e m)).heap[w.heap.size]?=some (.cells C e m):=by
  show(w.heap.push _)[w.heap.size]?=_
  simp
 rw[Addr.add_lit]
 unfold World.cell?
 rw[hh]
 simpa using h
theorem wY (w:World) (o:Obj) (C:Array Value) (e:TypeId) (m:Nat×Nat) (j:Nat) (u:Value) (h:C.toList[j]?=some u):((w.alloc o).alloc (.cells C e m)).cell? ((⟨w.heap.size+1,0,none⟩:Addr).add j)=some u:=by
 have hs:(w.alloc o).heap.size=w.heap.size+1:=by show(w.heap.push _).size=_;rw[Mq]
 have:=tE (w.alloc o) C e m j u h
 rwa[hs] at this
theorem J4 (b:UInt8) (h:((b.toNat:Int)==0)=true):(if b=0 then(32:UInt8) else b)=32:=by
 have h1:(b.toNat:Int)=0:=by simpa using h
 have h2:b=0:=UInt8.toNat_inj.1 (by show b.toNat=0;omega)
 rw[if_pos h2]
theorem J5 (b:UInt8) (h:((b.toNat:Int)==0)=false):(if b=0 then(32:UInt8) else b)=b:=by
 rw[if_neg]
 rintro rfl
 simp at h
set_option maxRecDepth 100000 in
theorem Ky:∃ i z,Tryz.prog.info? 5=some i/\i.zero=some z/\i.size=1/\i.bytes=1/\z.cells.size=1:=⟨_,_,rfl,rfl,rfl,rfl,rfl⟩
set_option maxRecDepth 100000 in
set_option maxHeartbeats 4000000 in
theorem xK (x0:bQ) (r:List UInt8×Int) (hr:gc x0=some r) (w:World) (M:Nat->Prop) (vs:List Value) (hM:∀ b,M b->b<w.heap.size) (hv:an w M [.agg (bJ x0)] vs) (hg:oF w):
  Calls Tryz.prog 19 vs.toArray w fun ev w'=>∃ v,ev= .returned (.tuple #[v,.int .i64 r.2])/\w'.ownsRow w.heap.size 5 1 v r.1.length (r.1.map fun b=>(b.toNat:Int)|>Value.int .u8)/\Below w.heap.size w w':=by
 unfold gc at hr
 cases hc:fj x0 with
 |none=>rw[hc] at hr;cases hr
 |some c=>
 rw[hc] at hr
 simp only[K3] at hr
 have hp:=o_ x0 c hc
 simp only[an,aJ,bJ] at hv
 obtain⟨u,us,rfl,⟨vs,rfl, -,u0,us0,rfl,rfl,u1,us1,rfl,rfl,u2,us2,rfl,rfl,u3,us3,rfl,rfl,u4,us4,rfl,rfl,rfl⟩,rfl⟩:=hv
 have hcon:=hp.2 (w.alloc (.cells #[.int .u8 x0.fElement.toNat,.int .u8 x0.fPart.toNat,.int .u8 x0.fRepeat.toNat,.int .u8 x0.fEscape.toNat,.int .u8 x0.fEnd.toNat] 43)) M _ (fun b hb=>by have:=hM b hb;show b<(w.heap.push _).size;rw[Mq];omega) (by simp only[an,aJ,bJ];exact⟨_,_,rfl,⟨_,rfl,by simp[Value.oneCell'],_,_,rfl,rfl,_,_,rfl,rfl,_,_,rfl,rfl,_,_,rfl,rfl,_,_,rfl,rfl,rfl⟩,rfl⟩) (hg.below ((Below.refl _ w).alloc (K9 _) _))
 have kc:=fun(w:World) (C:Array Value) (n c:Nat)=>Lib.run_convert_bytes_const (P:=Tryz.prog) w 41 5 C n c Tryz.underlying41 Tryz.underlying5
 have hsz:(w.alloc (.cells #[.int .u8 x0.fElement.toNat,.int .u8 x0.fPart.toNat,.int .u8 x0.fRepeat.toNat,.int .u8 x0.fEscape.toNat,.int .u8 x0.fEnd.toNat] 43)).heap.size=w.heap.size+1:=by show(w.heap.push _).size=_;rw[Mq]
 have hcell:∀ k,(w.alloc (.cells #[.int .u8 x0.fElement.toNat,.int .u8 x0.fPart.toNat,.int .u8 x0.fRepeat.toNat,.int .u8 x0.fEscape.toNat,.int .u8 x0.fEnd.toNat] 43)).cell? ⟨w.heap.size,k,none⟩=(#[.int .u8 x0.fElement.toNat,.int .u8 x0.fPart.toNat,.int .u8 x0.fRepeat.toNat,.int .u8 x0.fEscape.toNat,.int .u8 x0.fEnd.toNat]:Array Value)[k]?:=by
  intro k
  have hh:(w.alloc (.cells #[.int .u8 x0.fElement.toNat,.int .u8 x0.fPart.toNat,.int .u8 x0.fRepeat.toNat,.int .u8 x0.fEscape.toNat,.int .u8 x0.fEnd.toNat] 43)).heap[w.heap.size]?=some (.cells #[.int .u8 x0.fElement.toNat,.int .u8 x0.fPart.toNat,.int .u8 x0.fRepeat.toNat,.int .u8 x0.fEscape.toNat,.int .u8 x0.fEnd.toNat] 43):=by
   show(w.heap.push _)[w.heap.size]?=_
   simp
  unfold World.cell?
  rw[hh]
  rfl
 by_cases h0:c=0
 ·subst h0
  obtain⟨i0,z,hi,hz0,hz1,hz2,hzs⟩:=Ky
  go_enter Tryz.func19,Tryz.ntmps19
  go_wp2_with (first|(go_at_call 46;refine hcon.mono ?_;rintro e w' ⟨v,rfl,hrep,hB⟩;simp only[aJ] at hrep;subst hrep;have c0:=(hB.cell (p:=⟨w.heap.size,0,none⟩) (by rw[hsz];exact Nat.lt_succ_self _)).trans (hcell 0);have c1:=(hB.cell (p:=⟨w.heap.size,1,none⟩) (by rw[hsz];exact Nat.lt_succ_self _)).trans (hcell 1);have c2:=(hB.cell (p:=⟨w.heap.size,2,none⟩) (by rw[hsz];exact Nat.lt_succ_self _)).trans (hcell 2);have c3:=(hB.cell (p:=⟨w.heap.size,3,none⟩) (by rw[hsz];exact Nat.lt_succ_self _)).trans (hcell 3);have c4:=(hB.cell (p:=⟨w.heap.size,4,none⟩) (by rw[hsz];exact Nat.lt_succ_self _)).trans (hcell 4);dsimp at c0 c1 c2 c3 c4;have d0:=fun o=>Lib.cell?_alloc_marked (W:=w') o c0;have d1:=fun o=>Lib.cell?_alloc_marked (W:=w') o c1;have d2:=fun o=>Lib.cell?_alloc_marked (W:=w') o c2;have d3:=fun o=>Lib.cell?_alloc_marked (W:=w') o c3;have d4:=fun o=>Lib.cell?_alloc_marked (W:=w') o c4)|(at_builtin;refine wpList_append_grows _ rfl _ _ 41 rfl 5 i0 z 1 1 Tryz.underlying41 hi hz0 hz1 hz2 hzs oD _ 3 3 [.int .u8 77,.int .u8 82,.int .u8 75] rfl (fun h=>by cases h) rfl (by rintro b ⟨⟩ j u hj;exact Lib.cell?_alloc_marked _ (tE _ _ _ _ j u hj)) _ 5 _ [.int .u8 x0.fElement.toNat,.int .u8 x0.fPart.toNat,.int .u8 x0.fRepeat.toNat,.int .u8 32,.int .u8 x0.fEnd.toNat] rfl rfl (by intro j u hj;exact wY _ _ _ _ _ j u hj) (by simp[Value.oneCell']) oD oD oD ?_)|(at_builtin;refine wpList_append_grows _ rfl _ _ 41 rfl 5 i0 z 1 1 Tryz.underlying41 hi hz0 hz1 hz2 hzs oD _ 3 3 [.int .u8 77,.int .u8 82,.int .u8 75] rfl (fun h=>by cases h) rfl (by rintro b ⟨⟩ j u hj;exact Lib.cell?_alloc_marked _ (tE _ _ _ _ j u hj)) _ 5 _ [.int .u8 x0.fElement.toNat,.int .u8 x0.fPart.toNat,.int .u8 x0.fRepeat.toNat,.int .u8 x0.fEscape.toNat,.int .u8 x0.fEnd.toNat] rfl rfl (by intro j u hj;exact wY _ _ _ _ _ j u hj) (by simp[Value.oneCell']) oD oD oD ?_))
  ·intro v' w2 hown hgrow
   have he:((x0.fEscape.toNat:Int)==0)=true:=by assumption
   rw[if_pos trivial] at hr
   cases hr
   have hW:Below w.heap.size w w':=((Below.refl _ w).alloc (K9 _) _).trans (hB.mono (by rw[hsz];omega))
   have hle:=hW.size
   have hB2:Below w.heap.size w w2:=((hW.alloc hle _).alloc (by show _<=(w'.heap.push _).size;rw[Mq];omega) _).grown hgrow (by show _<=((w'.heap.push _).push _).size;rw[Mq,Mq];omega) (by intro k hk;cases hk)
   go_wp2
   go_ret2
   refine⟨_,rfl, ?_,hB2⟩
   have h5:=J4 _ he
   simp only[kw,h5]
   exact wZ (show w.heap.size<=w'.heap.size+1+1 by omega) hown
  ·intro v' w2 hown hgrow
   have he:((x0.fEscape.toNat:Int)==0)=false:=by assumption
   rw[if_pos trivial] at hr
   cases hr
   have hW:Below w.heap.size w w':=((Below.refl _ w).alloc (K9 _) _).trans (hB.mono (by rw[hsz];omega))
   have hle:=hW.size
   have hB2:Below w.heap.size w w2:=((hW.alloc hle _).alloc (by show _<=(w'.heap.push _).size;rw[Mq];omega) _).grown hgrow (by show _<=((w'.heap.push _).push _).size;rw[Mq,Mq];omega) (by intro k hk;cases hk)
   go_wp2
   go_ret2
   refine⟨_,rfl, ?_,hB2⟩
   have h5:=J5 _ he
   simp only[kw,h5]
   exact wZ (show w.heap.size<=w'.heap.size+1+1 by omega) hown
 ·go_enter Tryz.func19,Tryz.ntmps19
  go_wp2_with (go_at_call 46;refine hcon.mono ?_;rintro e w' ⟨v,rfl,hrep,hB⟩;simp only[aJ] at hrep;subst hrep)
  rw[if_neg h0] at hr
  cases hr
  go_ret2
  exact⟨_,rfl,⟨rfl,.inl ⟨rfl,rfl⟩⟩,((Below.refl _ w).alloc (K9 _) _).trans (hB.mono (by rw[hsz];omega))⟩
theorem rm (x0:bQ):∀ r,gc x0=some r->bI Tryz.prog 19 ([.agg (bJ x0)].map .d) (.tup [.own (.sl 5 (List.replicate 1 .sh)) (.slice (List.map ka r.1)),.d (.int .i64 r.2)]) ([.agg (bJ x0)].map .d):=by
 intro r hr
 refine DR oK (by intro r hr;obtain⟨b,_,rfl⟩:=Lt.1 hr;rfl) (fun w M vs hM hv hg=> ?_)
 refine(xK x0 r hr w M vs hM hv hg).mono ?_
 rintro ev w' ⟨v,rfl,ho,hB⟩
 refine⟨v,_,rfl,by rw[LN];exact ho, ?_, ?_,hB⟩
 ·clear ho hr
  induction r.1 with
  |nil=>simp[an]
  |cons b l ih=>simp only[Lh,LC,ka,Lw,Lk,an,aJ];exact⟨_,_,rfl,rfl,ih⟩
 ·intro u hu
  obtain⟨b,_,rfl⟩:=Lt.1 hu
  rfl
theorem ss (x0:bQ):∀ r,gc x0=some r->ae Tryz.prog 19 [.agg (bJ x0)] (.tup [.slice (List.map ka r.1),.int .i64 r.2]):=fun r hr=>(rm x0 r hr).pure rfl
end Go.Proofs.YtgmnipfafmphaaaGreatDoor
namespace Go.Proofs
open Go.Proofs.YtgmnipfafmphaaaGreatDoor
open Go.Shelf
def Tryz.lays171_ren:Go.Shelf.Ren:=⟨fun|171=>43|243=>85|246=>125|283=>156|284=>157|285=>158|286=>159|129=>177|317=>176|318=>178|319=>179|320=>180|337=>191|338=>192|n=>n,fun|3=>3|9=>9|2=>2|4=>4|171=>211|0=>0|53=>212|37=>41|5=>5|173=>215|212=>232|51=>233|20=>20|213=>234|46=>218|232=>250|233=>251|n=>n,fun|17=>3|18=>6|19=>7|n=>n⟩
theorem Tryz.lays171:Go.Proofs.LaysM.n171 Tryz.prog Tryz.lays171_ren:={
 mixed:=oK
 f129:=Tryz.func177.trans (Na some oK)
 f171:=Tryz.func43.trans (Na some oK)
 f243:=Tryz.func85.trans (Na some oK)
 f246:=Tryz.func125.trans (Na some oK)
 f283:=Tryz.func156.trans (Na some oK)
 f284:=Tryz.func157.trans (Na some oK)
 f285:=Tryz.func158.trans (Na some oK)
 f286:=Tryz.func159.trans (Na some oK)
 f317:=Tryz.func176.trans (Na some oK)
 f318:=Tryz.func178.trans (Na some oK)
 f319:=Tryz.func179.trans (Na some oK)
 f320:=Tryz.func180.trans (Na some oK)
 f337:=Tryz.func191.trans (Na some oK)
 f338:=Tryz.func192.trans (Na some oK)
 t0:=Tryz.underlying0
 a0:=Tryz.isAgg0
 z0:=Tryz.sizeOf0
 v0:=Tryz.zeroValue0
 t2:=Tryz.underlying2
 a2:=Tryz.isAgg2
 z2:=Tryz.sizeOf2
 v2:=Tryz.zeroValue2
 t3:=Tryz.underlying3
 a3:=Tryz.isAgg3
 z3:=Tryz.sizeOf3
 v3:=Tryz.zeroValue3
 t4:=Tryz.underlying4
 a4:=Tryz.isAgg4
 z4:=Tryz.sizeOf4
 v4:=Tryz.zeroValue4
 t5:=Tryz.underlying5
 a5:=Tryz.isAgg5
 z5:=Tryz.sizeOf5
 v5:=Tryz.zeroValue5
 t9:=Tryz.underlying9
 a9:=Tryz.isAgg9
 z9:=Tryz.sizeOf9
 v9:=Tryz.zeroValue9
 t20:=Tryz.underlying20
 a20:=Tryz.isAgg20
 z20:=Tryz.sizeOf20
 v20:=Tryz.zeroValue20
 t37:=Tryz.underlying41
 a37:=Tryz.isAgg41
 z37:=Tryz.sizeOf41
 v37:=Tryz.zeroValue41
 t46:=Tryz.underlying218
 a46:=Tryz.isAgg218
 z46:=Tryz.sizeOf218
 v46:=Tryz.zeroValue218
 t51:=Tryz.underlying233
 a51:=Tryz.isAgg233
 z51:=Tryz.sizeOf233
 v51:=Tryz.zeroValue233
 t53:=Tryz.underlying212
 a53:=Tryz.isAgg212
 z53:=Tryz.sizeOf212
 v53:=Tryz.zeroValue212
 t171:=Tryz.underlying211
 a171:=Tryz.isAgg211
 z171:=Tryz.sizeOf211
 v171:=Tryz.zeroValue211
 t173:=Tryz.underlying215
 a173:=Tryz.isAgg215
 z173:=Tryz.sizeOf215
 v173:=Tryz.zeroValue215
 t212:=Tryz.underlying232
 a212:=Tryz.isAgg232
 z212:=Tryz.sizeOf232
 v212:=Tryz.zeroValue232
 t213:=Tryz.underlying234
 a213:=Tryz.isAgg234
 z213:=Tryz.sizeOf234
 t232:=Tryz.underlying250
 a232:=Tryz.isAgg250
 z232:=Tryz.sizeOf250
 v232:=Tryz.zeroValue250
 t233:=Tryz.underlying251
 a233:=Tryz.isAgg251
 z233:=Tryz.sizeOf251
 v233:=Tryz.zeroValue251
 g17:=oK
 g18:=oK
 g19:=oK
 i0:=oK
 i2:=oK
 i3:=oK
 i4:=oK
 i5:=oK
 i9:=oK
 i20:=oK
 i37:=oK
 i46:=oK
 i51:=oK
 i53:=oK
 i171:=oK
 i173:=oK
 i212:=oK
 i232:=oK
 i233:=oK
 m17:=oK
 m18:=oK
 m19:=by kernel_rfl}
end Go.Proofs
namespace Go.Proofs.YtgmnipfafmphaaaGreatDoor
set_option linter.unusedSimpArgs false
set_option linter.unusedVariables false
open Go.RowKit Go.Shelf
theorem Cj (w:World) (k:Nat) (os:Array Obj):Below w.heap.size w (Go.Sort.grow (w.drewN k) os):=by
 refine⟨rfl,rfl,rfl, ?_,fun i hi=> ?_⟩
 ·show w.heap.size<=(w.heap++os).size
  rw[Array.size_append];omega
 ·show(w.heap++os)[i]?=w.heap[i]?
  rw[MI hi]
theorem DQ {w:World} (h:oF w):Lib.TabIs Tryz.prog w "internal/strconv.uint64pow10" .u64 Lib.pow10Tab:=by
 obtain⟨u,f,hc⟩:=h (3,.u64,Lib.pow10Tab) (by unfold GW;first|exact K8 (i:=0) rfl|exact K8 (i:=3) rfl)|>.at (by unfold Lib.pow10Tab;simp)
 unfold Lib.TabIs World.var?
 rw[show Tryz.prog.globalNamed "internal/strconv.uint64pow10" =some 3 by kernel_rfl]
 simp only[K3]
 rw[hc]
def jS (n:Int):Option (List UInt8):=if -9223372036854775808<=n/\n<=9223372036854775807 then some (Lib.itoa n) else none
theorem mt (n:Int):∀ r,jS n=some r->ae Tryz.prog 43 [.int .i64 n] (.str r):=by
 intro r hr
 unfold jS at hr
 split at hr
 ·rename_i h
  cases hr
  refine⟨by kernel_rfl,fun w M vs hM hv hgood=> ?_⟩
  simp only[an,aJ] at hv
  obtain⟨u,us,rfl,rfl,rfl⟩:=hv
  refine Calls.mono (Any.strconv_Itoa Tryz.lays171 n h.1 h.2 w (DQ hgood)) ?_
  rintro e w' ⟨rfl,k,os,rfl⟩
  exact⟨_,rfl,by simp[aJ],Cj w k os⟩
 ·cases hr
end Go.Proofs.YtgmnipfafmphaaaGreatDoor
namespace Go.Proofs
open Go.Proofs.YtgmnipfafmphaaaGreatDoor
open Go.Shelf
def Tryz.lays172_ren:Go.Shelf.Ren:=⟨fun|172=>59|244=>99|245=>100|247=>141|279=>142|280=>143|281=>144|282=>145|287=>169|316=>170|171=>43|205=>171|321=>189|322=>190|243=>85|246=>125|283=>156|284=>157|285=>158|286=>159|129=>177|317=>176|318=>178|319=>179|320=>180|337=>191|338=>192|n=>n,fun|9=>9|3=>3|75=>112|76=>113|4=>4|5=>5|167=>200|37=>41|0=>0|85=>201|2=>2|168=>203|53=>212|175=>224|46=>218|210=>228|127=>241|145=>244|143=>242|21=>21|171=>211|173=>215|212=>232|51=>233|20=>20|213=>234|232=>250|233=>251|80=>162|n=>n,fun|15=>1|16=>2|17=>3|18=>6|19=>7|n=>n⟩
theorem Tryz.lays172:Go.Proofs.Lays.n172 Tryz.prog Tryz.lays172_ren:={
 mixed:=oK
 f129:=Tryz.func177.trans (Na some oK)
 f171:=Tryz.func43.trans (Na some oK)
 f172:=Tryz.func59.trans (Na some oK)
 f205:=Tryz.func171.trans (Na some oK)
 f243:=Tryz.func85.trans (Na some oK)
 f244:=Tryz.func99.trans (Na some oK)
 f245:=Tryz.func100.trans (Na some oK)
 f246:=Tryz.func125.trans (Na some oK)
 f247:=Tryz.func141.trans (Na some oK)
 f279:=Tryz.func142.trans (Na some oK)
 f280:=Tryz.func143.trans (Na some oK)
 f281:=Tryz.func144.trans (Na some oK)
 f282:=Tryz.func145.trans (Na some oK)
 f283:=Tryz.func156.trans (Na some oK)
 f284:=Tryz.func157.trans (Na some oK)
 f285:=Tryz.func158.trans (Na some oK)
 f286:=Tryz.func159.trans (Na some oK)
 f287:=Tryz.func169.trans (Na some oK)
 f316:=Tryz.func170.trans (Na some oK)
 f317:=Tryz.func176.trans (Na some oK)
 f318:=Tryz.func178.trans (Na some oK)
 f319:=Tryz.func179.trans (Na some oK)
 f320:=Tryz.func180.trans (Na some oK)
 f321:=Tryz.func189.trans (Na some oK)
 f322:=Tryz.func190.trans (Na some oK)
 f337:=Tryz.func191.trans (Na some oK)
 f338:=Tryz.func192.trans (Na some oK)
 t0:=Tryz.underlying0
 a0:=Tryz.isAgg0
 z0:=Tryz.sizeOf0
 v0:=Tryz.zeroValue0
 t2:=Tryz.underlying2
 a2:=Tryz.isAgg2
 z2:=Tryz.sizeOf2
 v2:=Tryz.zeroValue2
 t3:=Tryz.underlying3
 a3:=Tryz.isAgg3
 z3:=Tryz.sizeOf3
 v3:=Tryz.zeroValue3
 t4:=Tryz.underlying4
 a4:=Tryz.isAgg4
 z4:=Tryz.sizeOf4
 v4:=Tryz.zeroValue4
 t5:=Tryz.underlying5
 a5:=Tryz.isAgg5
 z5:=Tryz.sizeOf5
 v5:=Tryz.zeroValue5
 t9:=Tryz.underlying9
 a9:=Tryz.isAgg9
 z9:=Tryz.sizeOf9
 v9:=Tryz.zeroValue9
 t20:=Tryz.underlying20
 a20:=Tryz.isAgg20
 z20:=Tryz.sizeOf20
 v20:=Tryz.zeroValue20
 t21:=Tryz.underlying21
 a21:=Tryz.isAgg21
 z21:=Tryz.sizeOf21
 v21:=Tryz.zeroValue21
 t37:=Tryz.underlying41
 a37:=Tryz.isAgg41
 z37:=Tryz.sizeOf41
 v37:=Tryz.zeroValue41
 t46:=Tryz.underlying218
 a46:=Tryz.isAgg218
 z46:=Tryz.sizeOf218
 v46:=Tryz.zeroValue218
 t51:=Tryz.underlying233
 a51:=Tryz.isAgg233
 z51:=Tryz.sizeOf233
 v51:=Tryz.zeroValue233
 t53:=Tryz.underlying212
 a53:=Tryz.isAgg212
 z53:=Tryz.sizeOf212
 v53:=Tryz.zeroValue212
 t75:=Tryz.underlying112
 a75:=Tryz.isAgg112
 z75:=Tryz.sizeOf112
 v75:=Tryz.zeroValue112
 t76:=Tryz.underlying113
 a76:=Tryz.isAgg113
 z76:=Tryz.sizeOf113
 v76:=Tryz.zeroValue113
 t85:=Tryz.underlying201
 a85:=Tryz.isAgg201
 z85:=Tryz.sizeOf201
 v85:=Tryz.zeroValue201
 t127:=Tryz.underlying241
 a127:=Tryz.isAgg241
 z127:=Tryz.sizeOf241
 v127:=Tryz.zeroValue241
 t143:=Tryz.underlying242
 a143:=Tryz.isAgg242
 z143:=Tryz.sizeOf242
 v143:=Tryz.zeroValue242
 t145:=Tryz.underlying244
 a145:=Tryz.isAgg244
 z145:=Tryz.sizeOf244
 v145:=Tryz.zeroValue244
 t167:=Tryz.underlying200
 a167:=Tryz.isAgg200
 z167:=Tryz.sizeOf200
 v167:=Tryz.zeroValue200
 t168:=Tryz.underlying203
 a168:=Tryz.isAgg203
 z168:=Tryz.sizeOf203
 v168:=Tryz.zeroValue203
 t171:=Tryz.underlying211
 a171:=Tryz.isAgg211
 z171:=Tryz.sizeOf211
 v171:=Tryz.zeroValue211
 t173:=Tryz.underlying215
 a173:=Tryz.isAgg215
 z173:=Tryz.sizeOf215
 v173:=Tryz.zeroValue215
 t175:=Tryz.underlying224
 a175:=Tryz.isAgg224
 z175:=Tryz.sizeOf224
 v175:=Tryz.zeroValue224
 t210:=Tryz.underlying228
 a210:=Tryz.isAgg228
 z210:=Tryz.sizeOf228
 v210:=Tryz.zeroValue228
 t212:=Tryz.underlying232
 a212:=Tryz.isAgg232
 z212:=Tryz.sizeOf232
 v212:=Tryz.zeroValue232
 t213:=Tryz.underlying234
 a213:=Tryz.isAgg234
 z213:=Tryz.sizeOf234
 t232:=Tryz.underlying250
 a232:=Tryz.isAgg250
 z232:=Tryz.sizeOf250
 v232:=Tryz.zeroValue250
 t233:=Tryz.underlying251
 a233:=Tryz.isAgg251
 z233:=Tryz.sizeOf251
 v233:=Tryz.zeroValue251
 g15:=oK
 g16:=oK
 g17:=oK
 g18:=oK
 g19:=by kernel_rfl}
end Go.Proofs
namespace Go.Proofs.YtgmnipfafmphaaaGreatDoor
set_option linter.unusedSimpArgs false
set_option linter.unusedVariables false
open Go.RowKit Go.Shelf
noncomputable def en (s:List UInt8):Option Int:=if s.length<=18 then Lib.atoi s else none
theorem sy (s:List UInt8):∀ r,en s=some r->ae Tryz.prog 59 [.str s] (.tup [.int .i64 r,.raw .nilIface]):=by
 intro r hr
 unfold en at hr
 split at hr
 ·rename_i h
  refine⟨by kernel_rfl,fun w M vs hM hv hgood=> ?_⟩
  simp only[an,aJ] at hv
  obtain⟨u,us,rfl,rfl,rfl⟩:=hv
  refine Calls.mono (Any.strconv_Atoi Tryz.lays172 ⟨s.toArray⟩ r (by simpa[ByteArray.size] using h) hr w) ?_
  rintro e w' ⟨rfl,t,rfl⟩
  refine⟨_,rfl, ?_,⟨rfl,rfl,rfl,by rw[Lib.bytesWorld_size];omega,fun j hj=>Lib.bytesWorld_at_old w _ t j hj⟩⟩
  unfold aJ
  refine⟨_,rfl, ?_⟩
  simp[an,aJ]
 ·cases hr
end Go.Proofs.YtgmnipfafmphaaaGreatDoor
namespace Go.Proofs.YtgmnipfafmphaaaGreatDoor
set_option linter.unusedSimpArgs false
set_option linter.unusedVariables false
open Go.RowKit Go.Shelf Go.Lib
variable {P:Program} {ρ:Ren}
set_option maxHeartbeats 2000000 in
set_option maxRecDepth 100000 in
theorem Ce (L:SlLaysE0.n41 P ρ) (i0:TypeInfo) (z:Value) (size bytes:Nat) (hi:P.info? (ρ.t 23)=some i0) (hz0:i0.zero=some z) (hz1:i0.size=size) (hz2:i0.bytes=bytes) (hzs:z.cells.size=size) (hsz:0<size)
  (z23:∀ w,(Go.sizeOf (ρ.t 23)).run P w= .ok size w) (p:Addr) (c:Nat) (w:World):
  Calls P (ρ.f 41) #[.slice (some p) 0 c] w fun e w'=>∃ v',e= .returned v'/\w'.ownsRow w.heap.size (ρ.t 23) size v' 0 []/\Below w.heap.size w w':=by
 have mixed:=L.mixed;have t4:=L.t4;have a4:=L.a4;have z4:=L.z4;have v4:=L.v4;have t22:=L.t22;have a22:=L.a22;have z22:=L.z22;have v22:=L.v22
 have q22:∀ (w:World) (a:Option Addr) (n c n' c':Nat),(binOp .eql (ρ.t 22) (.slice a n c) (.slice none n' c')).run P w= .ok (.bool a.isNone) w:=fun w a n c n' c'=>Lib.run_eql_slice_nil w _ _ a n c n' c' L.t22
 have u22:∀ w,Sem.run P (underlying (ρ.t 22)) w= .ok (TypeDesc.slice (ρ.t 23)) w:=run_underlying t22
 obtain⟨_,_,FG⟩:=L.f41
 go_enter FG,SlBodyN.n41_ntmps ρ
 go_wp2_with (at_builtin;refine wpList_append_own _ rfl _ _ (ρ.t 22) rfl w.heap.size (ρ.t 23) i0 z size bytes t22 hi hz0 hz1 hz2 hzs hsz _ _ _ rfl (World.ownsRow_made w #[] 0 (K9 _) (LT _) oS) p 0 c [] rfl ?qc1 ?qc2 ?qc3 ?qc4 ?qc5 ?qc6 ?_)
 case qc1=>simp
 case qc2=>intro j u hj;simp at hj
 case qc3=>simp
 case qc4=>simp
 case qc5=>simp
 case qc6=>simp
 intro v' w1 hown hgrow hnil
 go_wp2
 go_ret
 exact⟨v',rfl,by simpa using hown,((Below.refl _ w).alloc (K9 _) _).grown hgrow oS (by intro k hk;simp[Value.ownBlock] at hk;omega)⟩
theorem qb (L:SlLaysE0.n41 P ρ) (i0:TypeInfo) (z:Value) (size bytes:Nat) (hi:P.info? (ρ.t 23)=some i0) (hz0:i0.zero=some z) (hz1:i0.size=size) (hz2:i0.bytes=bytes) (hzs:z.cells.size=size) (hsz:0<size) (hby:bytes<=1024)
  (z23:∀ w,(Go.sizeOf (ρ.t 23)).run P w= .ok size w) (hcall:iu P (ρ.f 41)=true) (rows:List (List DV)) (hall:∀ r∈rows,r.length=size) (hlen:rows.length<=137438953472):bI P (ρ.f 41) (([.slice rows]:List DV).map .d) (.own (.sl (ρ.t 23) (List.replicate size .sh)) (.slice rows)) (([.slice rows]:List DV).map .d):=by
 refine FZ hcall hall (fun w M vs hM hv=> ?_)
 simp only[an] at hv
 obtain⟨u,us,rfl,hu,rfl⟩:=hv
 have hS:ag w M (fun _=> .pointer none) (.d (.slice rows)) u:=by simpa only[ag] using hu
 obtain⟨ad,cap,news,hu',k1,k2,k3⟩:=sT (sz:=size) hS (rows2:=rows.map dR) rfl (by intro r hr;obtain⟨q,hq,rfl⟩:=Lt.1 hr;simp[dR,hall q hq])
 simp only[LN] at hu'
 subst hu'
 rw[vE] at k1
 have k1':an w M rows.flatten news:=ai.toDVs _ _ _ k1 (kN _)
 have zero:∀ (a:Option Addr),rows=[]->Calls P (ρ.f 41) #[.slice a 0 cap] w fun e w'=>∃ v news,e= .returned v/\w'.ownsRow w.heap.size (ρ.t 23) size v 0 news/\an w M ([]:List (List DV)).flatten news/\(∀ u∈news,u.oneCell'=true)/\Below w.heap.size w w':=by
  intro a hr
  subst hr
  cases a with
  |none=>
   refine(AnyE.slices_Clone_nil L 0 cap w).mono ?_
   rintro e w' ⟨rfl,rfl⟩
   exact⟨_,[],rfl,⟨by simp,.inl ⟨rfl,rfl⟩⟩,by simp[an],by simp,Below.refl _ _⟩
  |some p=>
   refine(Ce L i0 z size bytes hi hz0 hz1 hz2 hzs hsz z23 p cap w).mono ?_
   rintro e w' ⟨v',rfl,ho,hB⟩
   exact⟨v',[],rfl,ho,by simp[an],by simp,hB⟩
 rcases k3 with⟨hr,hn⟩|⟨b,o,rfl,hcells⟩
 ·have hr':rows=[]:=by simpa using hr
  have:=zero ad hr'
  subst hr'
  exact this
 ·have kw:rows.length * bytes<=140737488355328:=by
   have:=Nat.mul_le_mul hlen hby
   omega
  refine(AnyE.slices_Clone L i0 z size bytes hi hz0 hz1 hz2 hzs hsz z23 b o rows.length cap news w (by rw[<-gL hall];exact k1'.len) (by unfold maxLen;omega) kw hcells k2).mono ?_
  rintro e w' ⟨v',rfl,ho,_,hB⟩
  exact⟨v',news,rfl,ho,k1',k2,hB⟩
end Go.Proofs.YtgmnipfafmphaaaGreatDoor
namespace Go.Proofs
open Go.Proofs.YtgmnipfafmphaaaGreatDoor
open Go.Shelf
def Tryz.lays41_126_ren:Go.Shelf.Ren:=⟨fun|41=>126|n=>n,fun|22=>35|23=>98|4=>4|n=>n,fun|n=>n⟩
theorem Tryz.lays41_126:Go.Proofs.SlLaysE0.n41 Tryz.prog Tryz.lays41_126_ren:={
 mixed:=oK
 f41:=⟨Tryz.f126.name,by decide,Tryz.func126.trans (Na some oK)⟩
 t4:=Tryz.underlying4
 a4:=Tryz.isAgg4
 z4:=Tryz.sizeOf4
 v4:=Tryz.zeroValue4
 t22:=Tryz.underlying35
 a22:=Tryz.isAgg35
 z22:=Tryz.sizeOf35
 v22:=Tryz.zeroValue35}
def Tryz.lays41_127_ren:Go.Shelf.Ren:=⟨fun|41=>127|n=>n,fun|22=>96|23=>34|4=>4|n=>n,fun|n=>n⟩
theorem Tryz.lays41_127:Go.Proofs.SlLaysE0.n41 Tryz.prog Tryz.lays41_127_ren:={
 mixed:=oK
 f41:=⟨Tryz.f127.name,by decide,Tryz.func127.trans (Na some oK)⟩
 t4:=Tryz.underlying4
 a4:=Tryz.isAgg4
 z4:=Tryz.sizeOf4
 v4:=Tryz.zeroValue4
 t22:=Tryz.underlying96
 a22:=Tryz.isAgg96
 z22:=Tryz.sizeOf96
 v22:=Tryz.zeroValue96}
def Tryz.lays41_128_ren:Go.Shelf.Ren:=⟨fun|41=>128|n=>n,fun|22=>34|23=>9|4=>4|n=>n,fun|n=>n⟩
theorem Tryz.lays41_128:Go.Proofs.SlLaysE0.n41 Tryz.prog Tryz.lays41_128_ren:={
 mixed:=oK
 f41:=⟨Tryz.f128.name,by decide,Tryz.func128.trans (Na some oK)⟩
 t4:=Tryz.underlying4
 a4:=Tryz.isAgg4
 z4:=Tryz.sizeOf4
 v4:=Tryz.zeroValue4
 t22:=Tryz.underlying34
 a22:=Tryz.isAgg34
 z22:=Tryz.sizeOf34
 v22:=Tryz.zeroValue34}
def Tryz.lays41_11_ren:Go.Shelf.Ren:=⟨fun|41=>11|n=>n,fun|22=>25|23=>37|4=>4|n=>n,fun|n=>n⟩
theorem Tryz.lays41_11:Go.Proofs.SlLaysE0.n41 Tryz.prog Tryz.lays41_11_ren:={
 mixed:=oK
 f41:=⟨Tryz.f11.name,by decide,Tryz.func11.trans (Na some oK)⟩
 t4:=Tryz.underlying4
 a4:=Tryz.isAgg4
 z4:=Tryz.sizeOf4
 v4:=Tryz.zeroValue4
 t22:=Tryz.underlying25
 a22:=Tryz.isAgg25
 z22:=Tryz.sizeOf25
 v22:=Tryz.zeroValue25}
end Go.Proofs
namespace Go.Proofs.YtgmnipfafmphaaaGreatDoor
open Go.RowKit Go.Shelf Go.Lib
def aT (l:List ax):Option (List ax):=if l.length<=137438953472 then some l else none
theorem dr (l:List ax):∀ r,aT l=some r->bI Tryz.prog 126 (([.slice (List.map ap l)]:List DV).map .d) (.own (.sl 98 (List.replicate 1 .sh)) (.slice (List.map ap r))) (([.slice (List.map ap l)]:List DV).map .d):=by
 intro r hr
 unfold aT at hr
 split at hr
 ·rename_i hlen
  cases hr
  exact qb Tryz.lays41_126 (i0:=(Tryz.prog.info? 98).get oK) (z:=((Tryz.prog.info? 98).get oK).zero.get oK) (size:=1) (bytes:=((Tryz.prog.info? 98).get oK).bytes) (Mz _).symm (Mz _).symm oK rfl oK oD (MV oK) Tryz.sizeOf98 oK (List.map ap l) (by intro r hr;obtain⟨b,_,rfl⟩:=Lt.1 hr;rfl) (by simpa using hlen)
 ·cases hr
def dW (l:List (List (List UInt8))):Option (List (List (List UInt8))):=if l.length<=137438953472 then some l else none
theorem iV (l:List (List (List UInt8))):∀ r,dW l=some r->bI Tryz.prog 127 (([.slice (List.map (gf dB) l)]:List DV).map .d) (.own (.sl 34 (List.replicate 1 .sh)) (.slice (List.map (gf dB) r))) (([.slice (List.map (gf dB) l)]:List DV).map .d):=by
 intro r hr
 unfold dW at hr
 split at hr
 ·rename_i hlen
  cases hr
  exact qb Tryz.lays41_127 (i0:=(Tryz.prog.info? 34).get oK) (z:=((Tryz.prog.info? 34).get oK).zero.get oK) (size:=1) (bytes:=((Tryz.prog.info? 34).get oK).bytes) (Mz _).symm (Mz _).symm oK rfl oK oD (MV oK) Tryz.sizeOf34 oK (List.map (gf dB) l) (by intro r hr;obtain⟨b,_,rfl⟩:=Lt.1 hr;rfl) (by simpa using hlen)
 ·cases hr
def el (l:List (List UInt8)):Option (List (List UInt8)):=if l.length<=137438953472 then some l else none
theorem jR (l:List (List UInt8)):∀ r,el l=some r->bI Tryz.prog 128 (([.slice (List.map dB l)]:List DV).map .d) (.own (.sl 9 (List.replicate 1 .sh)) (.slice (List.map dB r))) (([.slice (List.map dB l)]:List DV).map .d):=by
 intro r hr
 unfold el at hr
 split at hr
 ·rename_i hlen
  cases hr
  exact qb Tryz.lays41_128 (i0:=(Tryz.prog.info? 9).get oK) (z:=((Tryz.prog.info? 9).get oK).zero.get oK) (size:=1) (bytes:=((Tryz.prog.info? 9).get oK).bytes) (Mz _).symm (Mz _).symm oK rfl oK oD (MV oK) Tryz.sizeOf9 oK (List.map dB l) (by intro r hr;obtain⟨b,_,rfl⟩:=Lt.1 hr;rfl) (by simpa using hlen)
 ·cases hr
def am (l:List aa):Option (List aa):=if l.length<=137438953472 then some l else none
theorem bw (l:List aa):∀ r,am l=some r->bI Tryz.prog 11 (([.slice (List.map af l)]:List DV).map .d) (.own (.sl 37 (List.replicate 2 .sh)) (.slice (List.map af r))) (([.slice (List.map af l)]:List DV).map .d):=by
 intro r hr
 unfold am at hr
 split at hr
 ·rename_i hlen
  cases hr
  exact qb Tryz.lays41_11 (i0:=(Tryz.prog.info? 37).get oK) (z:=((Tryz.prog.info? 37).get oK).zero.get oK) (size:=2) (bytes:=((Tryz.prog.info? 37).get oK).bytes) (Mz _).symm (Mz _).symm oK rfl oK oD (MV oK) Tryz.sizeOf37 oK (List.map af l) (by intro r hr;obtain⟨b,_,rfl⟩:=Lt.1 hr;rfl) (by simpa using hlen)
 ·cases hr
end Go.Proofs.YtgmnipfafmphaaaGreatDoor
namespace Go.Proofs.YtgmnipfafmphaaaGreatDoor
set_option linter.unusedSimpArgs false
set_option linter.unusedVariables false
open Go.RowKit Go.Shelf Go.Lib
theorem Cf {P:Program} (w:World) (t e ty:TypeId) (z z1 z2:Value) (ht:P.underlying t=some (.slice e)) (hv:∀ w,(zeroValue e).run P w= .ok z w) (hz:z.cells= #[z1,z2]) (h1:z1.oneCell'=true) (h2:z2.oneCell'=true) (b o c:Nat)
  (hc:∀ j,j<2->(w.cell? ⟨b,o+j,none⟩).isSome=true) (hf:∀ j,j<2->w.frozen? ⟨b,o+j,none⟩=false):
  (Builtin.clear_ #[t] ty #[.slice (some ⟨b,o,none⟩) 1 c]).run P w= .ok (.tuple #[]) (w.setCells b o [z1,z2]):=by
 have hzc:(Builtin.zeroCells z.cells 1).toList=[z1,z2]:=by
  rw[hz]
  simp[Builtin.zeroCells]
  apply List.ext_getElem
  ·simp
  ·intro i h1 h2
   simp at h2
   match i,h2 with
   |0,_=>simp
   |1,_=>simp
 have hst:=run_storeCells_cells (P:=P) b o [z1,z2] 0 w (by simpa using hc) (by simpa using hf) (by intro v hv';simp at hv';rcases hv' with rfl|rfl<;>assumption)
 simp only[Mx] at hst
 simp[Builtin.clear_,run_underlying ht,hv,hzc,hst]
theorem mJ (b:Nat):∀ (vs:List Value) (o:Nat) (w:World),(w.setCells b o vs).tape=w.tape
 |[],_,_=>rfl
 |v::r,o,w=>by
  rw[World.setCells,mJ b r]
  unfold World.setCell
  split<;>rfl
set_option maxRecDepth 100000 in
theorem HG:∃ i,Tryz.prog.info? 37=some i/\i.size=2:=⟨_,rfl,rfl⟩
set_option maxRecDepth 100000 in
set_option maxHeartbeats 4000000 in
theorem zO (w:World) (g cap i j n:Nat) (news:List Value) (C:Array Value) (hg:w.heap[g]?=some (.cells C 37 (0,0))) (hC:C.size=cap * 2) (hn:n<=cap) (hm:cap<=maxLen) (hij:i<j) (hj:j<=n) (hji:j=i+1)
  (hone:∀ k v,k<n * 2->C[k]?=some v->v.oneCell'=true) (hnews:news=(C.toList.take (n * 2)).drop (j * 2)):
  Calls Tryz.prog 10 #[.slice (some ⟨g,0,none⟩) n cap,.int .i64 (i:Nat),.int .i64 (j:Nat)] w fun e w'=>e= .returned (.slice (some ⟨g,0,none⟩) (n - 1) cap)/\w'=(w.drew.setCells g (0+i * 2) news).setCells g ((i+(n - j)) * 2) [.string ⟨#[]⟩,.slice none 0 0]:=by
 obtain⟨i0,hi0,hz1⟩:=HG
 have t22:=Tryz.underlying25
 have hcell:∀ k,w.cell? ⟨g,k,none⟩=C[k]?:=by
  intro k
  unfold World.cell?
  simp[hg]
 have hlen:news.length=(n - j) * 2:=by
  rw[hnews]
  simp[hC]
  omega
 obtain⟨A,hA,hsrc⟩:∃ A:Addr,(if cap=j then some (⟨g,0,none⟩:Addr) else some ⟨g,j * 2,none⟩)=some A/\Hid (∀ t u,news[t]?=some u->w.drew.cell? (A.add t)=some u):=by
  by_cases h:cap=j
  ·refine⟨⟨g,0,none⟩,by simp[h],fun t u hu=> ?_⟩
   have h0:news.length=0:=by rw[hlen];omega
   rw[Ld.1 h0] at hu
   simp at hu
  ·refine⟨⟨g,j * 2,none⟩,by simp[h],fun t u hu=> ?_⟩
   rw[hnews,LQ,LJ] at hu
   split at hu
   ·rw[Addr.add_lit]
    exact(hcell _).trans (by simpa using hu)
   ·cases hu
 have s1:Hid (news.length=(n - j) * 2):=hlen
 have s2:Hid (∀ u∈news,u.oneCell'=true):=by
  intro u hu
  rw[hnews] at hu
  obtain⟨k,hk⟩:=List.mem_iff_getElem?.1 hu
  rw[LQ,LJ] at hk
  split at hk
  ·exact hone _ _ oA (by simpa using hk)
  ·cases hk
 have s3:Hid (∀ t,t<news.length->(w.drew.cell? ⟨g,0+i * 2+t,none⟩).isSome=true/\w.drew.frozen? ⟨g,0+i * 2+t,none⟩=false):=by
  intro t ht
  rw[hlen] at ht
  refine⟨?_, ?_⟩
  ·show(w.cell? _).isSome=true
   rw[hcell,LR oM];rfl
  ·show w.frozen? _=false
   unfold World.frozen?
   simp[hg]
 obtain⟨W1,hW1⟩:∃ W1,W1=w.drew.setCells g (0+i * 2) news:=⟨_,rfl⟩
 have hW:Hid (W1=w.drew.setCells g (0+i * 2) news):=hW1
 have hic:i<=cap:=by omega
 have hjc:j<=cap:=by omega
 have hr0:w.rowIs g 37 (cap * 2) (fun k=>(C[k]?).getD default):=⟨C,hg,hC,fun k hk=>by
  simp[LR (show k<C.size by omega)]⟩
 have hr1:W1.rowIs g 37 (cap * 2) (fun k=>if 0+i * 2<=k/\k<0+i * 2+news.length then news[k - (0+i * 2)]?.getD default else(C[k]?).getD default):=by
  rw[hW1]
  exact rowIs_setCells news (0+i * 2) w.drew _ hr0
 have hcl:∀ ty,(Builtin.clear_ #[25] ty #[.slice (some ⟨g,(i+(n - j)) * 2,none⟩) (n - (i+(n - j))) (cap - (i+(n - j)))]).run Tryz.prog W1= .ok (.tuple #[]) (W1.setCells g ((i+(n - j)) * 2) [.string ⟨#[]⟩,.slice none 0 0]):=by
  intro ty
  obtain⟨C1,k1,k2,k3⟩:=hr1
  rw[show n - (i+(n - j))=1 by omega]
  refine Cf W1 _ _ ty _ _ _ t22 Tryz.zeroValue37 rfl rfl rfl g _ _ (fun q hq=> ?_) (fun q hq=> ?_)
  ·unfold World.cell?
   simp[k1]
   omega
  ·unfold World.frozen?
   simp[k1]
 have mixed:Tryz.prog.follows Departure.mixedOrders=true:=oK
 have h1n:Hid (i+(n - j)=n - 1):=show i+(n - j)=n - 1 by omega
 have h1j:Hid (j=i+1):=hji
 clear hW1 hcell hlen hnews hone hji
 go_enter Tryz.func10,Tryz.ntmps10
 go_wp2_with fail
 go_region_law_o (refine step_append_room rfl (.tmp 22) (.tmp 25) 25 rfl 37 i0 2 t22 hi0 hz1 g 0 i cap (by simp[Act.eval,Act.put]) A (n - j) (cap - j) news (by simp[Act.eval,Act.put]) s1.out hsrc.out s2.out oM s3.out ?_;rw[<-hW.out])
 go_wp2_with fail
 all_goals(go_ret;exact⟨by rw[h1n.out];rfl,by rw[hW.out]⟩)
theorem kz (b:Nat):∀ (vs:List Value) (o:Nat) (w:World),(w.setCells b o vs).heap.size=w.heap.size
 |[],_,_=>rfl
 |v::r,o,w=>by
  rw[World.setCells,kz b r]
  unfold World.setCell
  split<;>simp
theorem yJ {α:Type} {row:α->List DV} {n:Nat} (h:∀ a,(row a).length=n):∀ (l:List α) (i:Nat),((l.take i).map row).flatten=((l.map row).flatten).take (i * n)
 |[],i=>by simp
 |a::l,0=>by simp
 |a::l,i+1=>by
  simp only[Mt,Lh,LC]
  rw[yJ h l i,List.take_append,h a,Lu (l:=row a) (by rw[h a,LU];omega),show(i+1) * n - n=i * n by rw[LU];omega]
theorem yK {α:Type} {row:α->List DV} {n:Nat} (h:∀ a,(row a).length=n):∀ (l:List α) (i:Nat),((l.drop i).map row).flatten=((l.map row).flatten).drop (i * n)
 |[],i=>by simp
 |a::l,0=>by simp
 |a::l,i+1=>by
  simp only[MO,Lh,LC]
  rw[yK h l i,List.drop_append,h a,L8 (l:=row a) (by rw[h a,LU];omega),show(i+1) * n - n=i * n by rw[LU];omega,Lk]
def aB (x0:List aa) (x1 x2:Int):Option (List aa):=if 0<=x1/\x2=x1+1/\x2<=x0.length then some (x0.take x1.toNat++x0.drop x2.toNat) else none
theorem Cg {w:World} {M:Nat->Prop} {rows:List (List DV)} {xs:List Value} {G:List Nat} {n:Nat} (hall:∀ r∈rows,r.length=n) (h:dX (fun r ys G'=>dy w M (List.replicate n .sh) r ys G') rows xs G):an w M rows.flatten xs/\G=[]:=by
 have h1:=(gP (κ:=κ0) (by simpa using hall)).2 h
 have e1:rows.map (bW (List.replicate n .sh))=rows.map dR:=LS fun r hr=>by
  have:=lg (row:=fun _:Unit=>r) (n:=n) (fun _=>hall r hr) [()]
  simpa[bH] using this
 rw[e1,su] at h1
 have hno:SV.noOwns (rows.flatten.map SV.d)=true:=hJ _ _ (kN _)
 obtain⟨hS,rfl⟩:=aj.to_S _ _ _ hno h1
 exact⟨ai.toDVs _ _ _ hS (kN _),rfl⟩
theorem Ci {w:World} {M:Nat->Prop} {rows:List (List DV)} {xs:List Value} {n:Nat} (hall:∀ r∈rows,r.length=n) (h:an w M rows.flatten xs):dX (fun r ys G'=>dy w M (List.replicate n .sh) r ys G') rows xs []:=by
 refine(gP (κ:=κ0) (by simpa using hall)).1 ?_
 have e1:rows.map (bW (List.replicate n .sh))=rows.map dR:=LS fun r hr=>by
  have:=lg (row:=fun _:Unit=>r) (n:=n) (fun _=>hall r hr) [()]
  simpa[bH] using this
 rw[e1,su]
 exact aj.of_S _ _ (ai.of_d h)
theorem c6 (x0:List aa) (x1 x2:Int):∀ r,aB x0 x1 x2=some r->
  bI Tryz.prog 10 (.own (.sl 37 (List.replicate 2 .sh)) (.slice (x0.map af))::List.map SV.d ([.int .i64 x1,.int .i64 x2]:List DV))
   (.own (.sl 37 (List.replicate 2 .sh)) (.slice (r.map af))) (.d .any::List.map SV.d ([.int .i64 x1,.int .i64 x2]:List DV)):=by
 intro r hr
 unfold aB at hr
 split at hr
 rotate_left
 ·cases hr
 rename_i hb
 cases hr
 obtain⟨i,rfl⟩:∃ i:Nat,x1=(i:Int):=⟨x1.toNat,by omega⟩
 obtain⟨b1,rfl,b3⟩:=hb
 have hj:(((i:Int)+1).toNat)=i+1:=by omega
 rw[hj,Mo]
 have hil:i+1<=x0.length:=by omega
 refine⟨by kernel_rfl,fun w M vs F hM hF hnd hrep hg hfree=> ?_⟩
 simp only[Lh,MY,aj] at hrep
 obtain⟨u,us,F1,F2,rfl,rfl,h1,u2,us2,F3,F4,rfl,rfl,h2,u3,us3,F5,F6,rfl,rfl,h3,rfl,rfl⟩:=hrep
 unfold ao at h1 h2 h3
 obtain⟨rfl,h2⟩:=h2
 obtain⟨rfl,h3⟩:=h3
 simp only[ag,aJ] at h2 h3
 subst h2 h3
 unfold dz at h1
 obtain⟨rows,xs,G,hd,hrow,hone,hlen,hcells,rfl⟩:=h1
 injection hd with hd
 subst hd
 have hall:∀ r∈x0.map af,r.length=2:=fun r hr=>by obtain⟨s,_,rfl⟩:=Lt.1 hr;rfl
 obtain⟨hR,rfl⟩:=Cg hall hcells
 simp only[Ll,LN] at hrow
 rcases hrow.2 with⟨_,h0⟩|⟨g,cap,cur,rfl,_,hcur,hncap,hcmax,hsz,htake⟩
 ·omega
 have hF1:ed (.slice (some ⟨g,0,none⟩) x0.length cap)=[g]:=rfl
 simp only[Lr,hF1] at hM hF hnd hR hfree⊢
 have hxl:xs.length=x0.length * 2:=hrow.1
 have hget:∀ k,k<x0.length * 2->cur[k]?=xs[k]?:=fun k hk=>by
  rw[<-htake,LJ,if_pos hk];simp
 have hg0:g<w.heap.size:=(Lo.1 hcur).1
 refine(zO w g cap i (i+1) x0.length (xs.drop ((i+1) * 2)) cur hcur hsz hncap hcmax oM hil rfl (fun k v hk hv=>by
  rw[hget k hk] at hv
  exact hone v (K8 hv)) (by rw[htake])).mono ?_
 rintro e w' ⟨rfl,rfl⟩
 have hr0:w.rowIs g 37 (cap * 2) (fun k=>(cur[k]?).getD default):=⟨cur,hcur,hsz,fun k hk=>by simp[LR (show k<cur.size by omega)]⟩
 obtain⟨c',q1,q2,q3⟩:=rowIs_setCells [.string ⟨#[]⟩,.slice none 0 0] ((i+(x0.length - (i+1))) * 2) _ _ (rowIs_setCells (xs.drop ((i+1) * 2)) (0+i * 2) w.drew _ hr0)
 generalize hW':(w.drew.setCells g (0+i * 2) (xs.drop ((i+1) * 2))).setCells g ((i+(x0.length - (i+1))) * 2) [.string ⟨#[]⟩,.slice none 0 0]=w' at q1
 have hsize:w'.heap.size=w.heap.size:=by rw[<-hW',kz,kz];rfl
 have hblk:∀ b,b<w.heap.size->b≠g->w'.heap[b]?=w.heap[b]?:=fun b hb hne=>by
  rw[<-hW',World.heap_setCells_other _ g _ _ (by rw[kz];exact hb) hne,World.heap_setCells_other w.drew g _ _ hb hne];rfl
 have hext:gh w (fun b=>M b\/b∈[g]) w' (fun b=>M b\/b∈[]++[g]):=⟨by omega,fun b hb hm=>⟨hblk b hb (fun h=>hm (.inr (by simp[h]))),by simpa using hm⟩⟩
 refine⟨_,[],[g],rfl,aj.of_S _ _ (by simp only[ai,ag,aJ];exact⟨_,_,rfl,trivial,_,_,rfl,rfl,_,_,rfl,rfl,rfl⟩), ?_,by simp,fun b hb=> ?_,⟨?_, ?_, ?_,by omega,fun b hb hA=>hblk b hb (by simpa using hA)⟩⟩
 ·unfold ao dz
  have hrows:((x0.take i++x0.drop (i+1)).map af).length=x0.length - 1:=by
   simp only[LN,K4,Lb,L5];omega
  refine⟨(x0.take i++x0.drop (i+1)).map af,xs.take (i * 2)++xs.drop ((i+1) * 2),[],rfl, ?_, ?_, ?_, ?_,by simp[ed,oo]⟩
  ·rw[hrows,Ll]
   refine⟨by simp only[K4,Lb,L5,hxl];omega,.inr ⟨g,cap,c',rfl,LT _,q1,by omega,hcmax,q2, ?_⟩⟩
   apply List.ext_getElem?
   intro k
   rw[LJ]
   split
   ·rename_i hk
    have hk2:k<cap * 2:=by omega
    rw[Array.getElem?_toList,q3 k hk2]
    dsimp only
    rw[if_neg (by simp only[K7,Lf];omega)]
    by_cases h1:k<i * 2
    ·rw[if_neg oM,LH (by simp only[Lb,hxl];omega),LJ,if_pos h1,hget k oM]
     obtain⟨v,hv⟩:=eH (l:=xs) (i:=k) oM
     rw[hv];rfl
    ·have hl1:(xs.take (i * 2)).length=i * 2:=by rw[Lb,hxl];omega
     rw[if_pos (by simp only[L5,hxl];omega),Lv oM,hl1,LF]
     obtain⟨v,hv⟩:=eH (l:=xs.drop ((i+1) * 2)) (i:=k - i * 2) (by simp only[L5,hxl];omega)
     rw[hv];rfl
   ·rename_i hk
    rw[List.getElem?_eq_none (by simp only[K4,Lb,L5,hxl];omega)]
  ·intro x hx
   rcases Le.1 hx with hx|hx
   ·exact hone x (Lq hx)
   ·exact hone x (LW hx)
  ·intro r hr
   obtain⟨s,_,rfl⟩:=Lt.1 hr
   rfl
  ·refine Ci (fun r hr=>by obtain⟨s,_,rfl⟩:=Lt.1 hr;rfl) ?_
   rw[Mw,M4,yJ (n:=2) (fun _=>rfl),yK (n:=2) (fun _=>rfl)]
   exact((hR.cut (i * 2)).1.append (hR.cut ((i+1) * 2)).2).ext hext
 ·have:b=g:=by simpa using hb
  subst this
  exact⟨.inl oS,by omega⟩
 ·rw[<-hW',World.os_setCells,World.os_setCells];rfl
 ·rw[<-hW',mJ,mJ];rfl
 ·rw[<-hW',World.output_setCells,World.output_setCells];rfl
theorem DP {P:Program} {f:FuncId} {ins outs:List SV} {m:aL} {d:DV} (hp:m.plain=true) (h:bI P f ins (.own m d) outs):bI P f ins (.d d) outs:=by
 refine⟨h.1,fun w M vs F hM hF hnd hrep hg hfree=>(h.2 w M vs F hM hF hnd hrep hg hfree).mono ?_⟩
 rintro e w' ⟨v,F1,F2,rfl,k1,k2,k3,k4,k5⟩
 have hsub:∀ b,(M b\/b∈F1++[])->(M b\/b∈F1++F2):=fun b hb=>hb.imp id (fun hb=>Mf _ (by simpa using hb))
 unfold ao at k2
 have hd:=dz.frz hsub m d v F2 hp (fun b hb hn=>by
  rcases hn with hn|hn
  ·have h1:=hM b hn
   rcases(k4 b (List.mem_append_right _ hb)).1 with h2|h2
   ·exact h1.2 h2
   ·omega
  ·have:b∈F1:=by simpa using hn
   exact(Ly.1 k3).2.2 b this b hb rfl) k2
 refine⟨v,F1,[],rfl,aj.ext (gh.shrink hsub) _ _ _ (fun _ _=>rfl) k1, ?_, ?_,fun b hb=>k4 b (Mf _ (by simpa using hb)),k5⟩
 ·unfold ao;exact⟨rfl,by simpa only[ag] using hd⟩
 ·simpa using(Ly.1 k3).1
theorem J3 {P:Program} {s:Nat->SV} {h:Nat->Ch} {K:St->Prop} {sos:List SO} {Y R α:Type} {row:α->List DV} {r:R} {a:Option Y} {k:Y->Option R} {dst f id e n:Nat} {args:List SX} {gs:List SV} {ds0 ds:List DV} {l:List α} {l':Y->List α} (hm:a.bind k=some r) (hx:args.map (ev s)= .vec id::gs) (hgs:SV.toDVs gs=some ds0) (hh:h id= .vec e n (bH row l)) (hsz:∀ a,(row a).length=n)
  (hs:∀ y,a=some y->bI P f (.own (.sl e (List.replicate n .sh)) (.slice (l.map row))::ds.map .d) (.own (.sl e (List.replicate n .sh)) (.slice ((l' y).map row))) (.d .any::ds.map .d)) (he:ds0=ds)
  (hk:∀ y,k y=some r->aA P K sos ⟨ak s dst (.d (.slice ((l' y).map row))),ak h id .dead⟩):aA P K (.p (some dst) (.f f) args::sos) ⟨s,h⟩:=by
 subst he
 cases hy:a with
 |none=>rw[hy] at hm;cases hm
 |some y=>
  rw[hy] at hm
  refine JL (σ1:=⟨s,h⟩) (L:=[(id,.dead)]) (ce.refl _) (DP ?_ (hs y hy)) rfl ?_ ?_ (hk y hm)
  ·simp only[aL.plain]
   exact yF n
  ·have e1:args.map (ev (St.s ⟨s,h⟩))= .vec id::gs:=hx
   rw[e1]
   exact .move (jx hsz l) (rW hsz l) hh oS (ls hgs)
  ·simp only[takes,SV.nOwn,LX,gG]
end Go.Proofs.YtgmnipfafmphaaaGreatDoor
namespace Go.Proofs.YtgmnipfafmphaaaGreatDoor
def mQ:SC:=
 (.seq (.reg [.r 31 (.bin .lss (.t 30) (.t 29))])
 (.seq (.cond (.t 31)
  .skip
  (.exit 2))
 (.seq (.block 3 (.seq (.reg [.r 32 (.mv (.t 30)),
    .r 33 (.idx 1 (.t 28) (.t 30)),
    .o 34 (.ld1 (.t 33)),
    .r 5 (.mv (.t 32)),
    .r 6 (.mv (.t 34))])
  (.regE [.r 35 (.fld 1 (.t 1)),
    .r 36 (.ld1 (.t 35)),
    .r 37 (.mv (.t 3)),
    .r 38 (.idx 1 (.t 36) (.t 37)),
    .r 39 (.fld 0 (.t 38)),
    .r 40 (.ld1 (.t 39)),
    .r 41 (.mv (.t 5)),
    .r 42 (.mv (.t 6)),
    .q 43 (.f 128) [.t 42] [(0,35,.fld 1 (.t 1)),(1,36,.ld1 (.t 35)),(2,37,.mv (.t 3)),(3,38,.idx 1 (.t 36) (.t 37)),(4,39,.fld 0 (.t 38)),(5,40,.ld1 (.t 39)),(6,41,.mv (.t 5))],
    .r 44 (.idx 1 (.t 40) (.t 41)),
    .x 0 (.st 1 (.t 44) (.t 43)) []])))
 (.reg [.r 45 (.bin .add (.t 30) (.c (.d (.int .i64 1)))),
   .r 30 (.mv (.t 45))]))))
def mR:SC:= .block 2 (.loop mQ)
def mS:SC:=
 (.seq (.reg [.r 15 (.bin .lss (.t 14) (.t 13))])
 (.seq (.cond (.t 15)
  .skip
  (.exit 0))
 (.seq (.block 1 (.seq (.reg [.r 16 (.mv (.t 14)),
    .r 17 (.idx 1 (.t 12) (.t 14)),
    .o 18 (.ldA 1 (.t 17)),
    .w 4 (.boxM (.c (.agg [.nils]))),
    .r 3 (.mv (.t 16)),
    .w 0 (.st 1 (.t 4) (.t 18))])
  (.seq (.regE [.r 19 (.fld 1 (.t 1)),
    .r 20 (.ld1 (.t 19)),
    .r 21 (.mv (.t 3)),
    .r 22 (.fld 0 (.t 4)),
    .r 23 (.ld1 (.t 22)),
    .q 24 (.f 127) [.t 23] [(0,19,.fld 1 (.t 1)),(1,20,.ld1 (.t 19)),(2,21,.mv (.t 3))],
    .r 25 (.idx 1 (.t 20) (.t 21)),
    .r 26 (.fld 0 (.t 25)),
    .x 0 (.st 1 (.t 26) (.t 24)) []])
  (.seq (.reg [.r 27 (.fld 0 (.t 4)),
    .o 28 (.ld1 (.t 27)),
    .r 29 (.len (.t 28)),
    .r 30 (.mv (.c (.d (.int .i64 0))))])
  mR))))
 (.reg [.r 46 (.bin .add (.t 14) (.c (.d (.int .i64 1)))),
   .r 14 (.mv (.t 46))]))))
def mT:SC:= .block 0 (.loop mS)
def qp:SC:=
 (.seq (.reg [.w 1 (.boxM (.t 0)),
   .w 2 (.boxM (.c (.agg [.d (.str []),.nils])))])
 (.seq (.reg [.r 7 (.fld 1 (.t 1)),
   .o 8 (.ld1 (.t 7)),
   .p (some 9) (.f 126) [.t 8],
   .r 10 (.fld 1 (.t 1)),
   .w 0 (.st 1 (.t 10) (.t 9))])
 (.seq (.seq (.reg [.r 11 (.fld 1 (.t 1)),
   .o 12 (.ld1 (.t 11)),
   .r 13 (.len (.t 12)),
   .r 14 (.mv (.c (.d (.int .i64 0))))])
 mT)
 (.seq (.reg [.o 47 (.ldA 2 (.t 1)),
   .w 0 (.st 2 (.t 2) (.t 47))])
 .ret))))
theorem vo:fits Tryz.prog 86 Tryz.f86 qp [.cell 2 2] 1=true:=oK
end Go.Proofs.YtgmnipfafmphaaaGreatDoor
