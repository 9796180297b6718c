/-
  Texts of mine, one behind the other (SYLibA0, SYLibA1, SYLibA2, SYLibA3, SYFU, SYGS, SYGA, SYGA2).
-/
import Derived.Test.YtgmnipfafmphaaaGreatDoorBY1
import Derived.Shelf.Unicode.DecodeLastEight
import Derived.Lib.TrimU
import Derived.Test.YtgmnipfafmphaaaGreatDoorSYEngY
import Derived.Test.YtgmnipfafmphaaaGreatDoorSYEngZz
import Derived.Test.YtgmnipfafmphaaaGreatDoorProg
import Derived.Test.YtgmnipfafmphaaaGreatDoorSYEngRp
import Derived.Test.YtgmnipfafmphaaaGreatDoorSYEngRq
namespace Go.Proofs.YtgmnipfafmphaaaGreatDoor
set_option linter.unusedSimpArgs false
set_option linter.unusedVariables false
open Go.RowKit Go.Shelf Go.Lib
theorem Sd (c:Nat) (h1:128<=c) (h2:c<2048):(Utf8.encode (c:Int)).size=2/\128<=((Utf8.encode (c:Int)).get! 0).toNat:=by
 have hv:Utf8.valid (c:Int)=true:=by unfold Utf8.valid;simp;omega
 unfold Utf8.encode
 simp only[hv,TB,Ue]
 rw[if_neg oM,U4 oM]
 refine⟨rfl, ?_⟩
 show 128<=(UInt8.ofNat (0xC0+c/64)).toNat
 rw[Ud (by show 0xC0+c/64<256;omega)]
 omega
theorem Se (c:Nat) (h1:2048<=c) (h2:c<65536) (hv:Utf8.valid (c:Int)=true):(Utf8.encode (c:Int)).size=3/\128<=((Utf8.encode (c:Int)).get! 0).toNat:=by
 unfold Utf8.encode
 simp only[hv,TB,Ue]
 rw[if_neg oM,if_neg oM,U4 oM]
 refine⟨rfl, ?_⟩
 show 128<=(UInt8.ofNat (0xE0+c/4096)).toNat
 rw[Ud (by show 0xE0+c/4096<256;omega)]
 omega
theorem Sf (c:Nat) (h1:65536<=c) (hv:Utf8.valid (c:Int)=true):(Utf8.encode (c:Int)).size=4/\128<=((Utf8.encode (c:Int)).get! 0).toNat:=by
 have h2:c<=1114111:=by unfold Utf8.valid at hv;simp at hv;omega
 unfold Utf8.encode
 simp only[hv,TB,Ue]
 rw[if_neg oM,if_neg oM,if_neg oM]
 refine⟨rfl, ?_⟩
 show 128<=(UInt8.ofNat (0xF0+c/262144)).toNat
 rw[Ud (by show 0xF0+c/262144<256;omega)]
 omega
structure Or (s:ByteArray) (i r k:Nat):Prop where
 rune:128<=r
 pos:1<=k
 all:∀ j,j<k->i+j<s.size/\128<=(s.get! (i+j)).toNat
 enc:r≠65533->2<=k/\(Utf8.encode (r:Int)).size=k/\128<=((Utf8.encode (r:Int)).get! 0).toNat
theorem Mn (s:ByteArray) (i:Nat) (hi:i<s.size) (h:128<=(s.get! i).toNat):Or s i (Utf8.decode s i).1 (Utf8.decode s i).2:=by
 have h0:128<=(s.get! (i+0)).toNat:=h
 have hb:=(s.get! (i+0)).toNat_lt
 have bad:Or s i 65533 1:=⟨by omega,by omega,fun j hj=>(by obtain rfl:j=0:=oM;exact⟨hi,h0⟩),fun h=>absurd rfl h⟩
 unfold Utf8.decode
 simp only[Utf8.runeError]
 obtain⟨q,v3⟩:∃ q,(s.get! (i+0)).toNat=q:=⟨_,rfl⟩
 rw[v3] at h0 hb
 simp only[v3]
 rw[if_neg oM]
 have a:∀ k,(decide (i+k<s.size)&&(s.get! (i+k)).toNat/64==2)=true->i+k<s.size/\128<=(s.get! (i+k)).toNat:=fun k hk=>by
  simp only[SR,S5,S_] at hk
  exact⟨hk.1,by omega⟩
 split
 ·rename_i h1
  simp only[SR] at h1
  have T:=a 1 (by simp only[SR];exact h1.2)
  have D:=h1.1
  simp only[S_] at D
  split
  ·rename_i hc
   obtain⟨e1,e2⟩:=Sd _ hc oM
   exact⟨by omega,by simp,fun j hj=>by
    rcases(show j=0\/j=1 by simp only at hj;omega) with rfl|rfl
    ·exact⟨hi,by rw[v3];exact h0⟩
    ·exact T,fun _=>⟨by simp,e1,e2⟩⟩
  ·exact bad
 ·split
  ·rename_i h1
   simp only[SR] at h1
   have T:=a 1 (by simp only[SR];exact h1.1.2)
   have c2:=a 2 (by simp only[SR];exact h1.2)
   have D:=h1.1.1
   simp only[S_] at D
   split
   ·rename_i hc
    simp only[SR,S5] at hc
    obtain⟨e1,e2⟩:=Se _ hc.1 oM hc.2
    exact⟨by simp only;omega,by simp,fun j hj=>by
     rcases(show j=0\/j=1\/j=2 by simp only at hj;omega) with rfl|rfl|rfl
     ·exact⟨hi,by rw[v3];exact h0⟩
     ·exact T
     ·exact c2,fun _=>⟨by simp,e1,e2⟩⟩
   ·exact bad
  ·split
   ·rename_i h1
    simp only[SR] at h1
    have T:=a 1 (by simp only[SR];exact h1.1.1.2)
    have c2:=a 2 (by simp only[SR];exact h1.1.2)
    have S:=a 3 (by simp only[SR];exact h1.2)
    split
    ·rename_i hc
     simp only[SR,S5] at hc
     obtain⟨e1,e2⟩:=Sf _ hc.1 hc.2
     exact⟨by simp only;omega,by simp,fun j hj=>by
      rcases(show j=0\/j=1\/j=2\/j=3 by simp only at hj;omega) with rfl|rfl|rfl|rfl
      ·exact⟨hi,by rw[v3];exact h0⟩
      ·exact T
      ·exact c2
      ·exact S,fun _=>⟨by simp,e1,e2⟩⟩
    ·exact bad
   ·exact bad
end Go.Proofs.YtgmnipfafmphaaaGreatDoor
namespace Go.Proofs.YtgmnipfafmphaaaGreatDoor
set_option linter.unusedSimpArgs false
set_option linter.unusedVariables false
open Go.RowKit Go.Shelf Go.Lib
theorem IA {c:ByteArray} (d:∀ (j:Nat) b,c.data.toList[j]?=some b->b.toNat<128) {x:UInt8} (hx:128<=x.toNat):c.data.toList.contains x=false:=by
 cases h:c.data.toList.contains x with
 |false=>rfl
 |true=>
  obtain⟨j,hj,he⟩:=TM.1 (List.contains_iff_mem.1 h)
  have:=d j x (by rw[S0 hj,he])
  omega
set_option maxHeartbeats 8000000 in
set_option maxRecDepth 1000000 in
theorem Qt (s:ByteArray) (b off N:Nat) (c:ByteArray) (w:World) (z:s.size<=N) (hB:Ko s b off w) (h2:2<=c.size) (h8:s.size=1) (d:∀ (j:Nat) b,c.data.toList[j]?=some b->b.toNat<128):
  Calls Tryz.prog 138 #[.slice (some ⟨b,off,none⟩) s.size N,.string c] w fun e w'=>e= .returned (.int .i64 (Lib.indexAny s.data.toList c.data.toList))/\Below w.heap.size w w':=by
 have J:Aside (∀ (j:Nat) b,c.data.toList[j]?=some b->b.toNat<128):=d
 have I:c.toList.isEmpty=false:=by
  rw[Lib.toList_data]
  cases h:c.data.toList with
  |nil=>have:=Lib.size_eq c;rw[h,S3] at this;omega
  |cons _ _=>rfl
 have C:((s.size:Int)==1)=true:=beq_iff_eq.2 oM
 have r0:(0:Int)<(s.size:Int):=by omega
 obtain⟨x,hx⟩:∃ x:UInt8,s[0]' oM=x:=⟨_,rfl⟩
 have r6:s.data.toList[0]?=some x:=by rw[<-hx];exact Lib.data_getElem? s 0 oM
 have L:=hB 0 oM
 rw[show s.get! 0=x by rw[<-hx];exact get_at s 0 oM,Ul] at L
 have hl:s.data.toList=[x]:=by
  have hn:s.data.toList.length=1:=by rw[<-Lib.size_eq];exact h8
  cases h:s.data.toList with
  |nil=>rw[h] at hn;simp at hn
  |cons a t=>
   rw[h] at hn r6
   simp at hn r6
   rw[hn,r6]
 rw[hl]
 have B:((x.toNat:Int)).toNat.toUInt8=x:=by simp
 have f:=Lib.contains_iff_indexByte c.data.toList x
 have M:= @IA c d x
 have D:Aside (128<=x.toNat->Lib.indexAny [x] c.data.toList= -1):=fun h=>Lib.indexAny_none (fun j b hj hb=>by
  obtain rfl:j=0:=by simpa using hj
  simp only[Tz,SN] at hb
  rw[<-hb];exact M h)
 have k:Aside (c.data.toList.contains x=false->Lib.indexAny [x] c.data.toList= -1):=fun h=>Lib.indexAny_none (fun j b hj hb=>by
  obtain rfl:j=0:=by simpa using hj
  simp only[Tz,SN] at hb
  rw[<-hb];exact h)
 have HT:Aside (c.data.toList.contains x=true->Lib.indexAny [x] c.data.toList=0):=fun h=>Lib.indexAny_hit (Lib.NoAny.zero _ _) (Tz ..) h
 clear d hB hl r6 M hx
 have t3:=Tryz.underlying3;have a3:=Tryz.isAgg3;have z3:=Tryz.sizeOf3;have v3:=Tryz.zeroValue3
 have t4:=Tryz.underlying4;have a4:=Tryz.isAgg4;have z4:=Tryz.sizeOf4;have v4:=Tryz.zeroValue4
 have t5:=Tryz.underlying5;have a5:=Tryz.isAgg5;have z5:=Tryz.sizeOf5;have v5:=Tryz.zeroValue5
 have t9:=Tryz.underlying9;have a9:=Tryz.isAgg9;have z9:=Tryz.sizeOf9;have v9:=Tryz.zeroValue9
 have t21:=Tryz.underlying21;have a21:=Tryz.isAgg21;have z21:=Tryz.sizeOf21;have v21:=Tryz.zeroValue21
 have t22:=Tryz.underlying41;have a22:=Tryz.isAgg41;have z22:=Tryz.sizeOf41;have v22:=Tryz.zeroValue41
 have r2:wrap32 (x.toNat:Int)=(x.toNat:Int):=by have:=UInt8.toNat_lt x;unfold wrap32;omega
 by_cases p:128<=x.toNat
 ·have h0:(128:Int)<=(x.toNat:Int):=by omega
  clear f
  go_enter Tryz.func138,Tryz.ntmps138
  go_wp2
  go_loopg [5] c.size (fun g s5 E=>∃ i:Nat,i+g=c.size/\(∃ r,s5= .int .i32 r)/\E=w.iter c i)
  case atStart=>exact⟨0,by omega,⟨_,rfl⟩,rfl⟩
  case round=>
   obtain⟨i,Q,⟨r,rfl⟩,rfl⟩:=hrel
   cases gk with
   |zero=>
    obtain rfl:i=c.size:=by omega
    have u:=run_next_end (P:=Tryz.prog) w c c.size
    go_wp2
    go_ret
    exact⟨by rw[D.out p];rfl,(Below.refl _ _).alloc (SZ _) _⟩
   |succ g=>
    have hi:i<c.size:=by omega
    obtain⟨y,hy⟩:∃ y:UInt8,c[i]'hi=y:=⟨_,rfl⟩
    have o:c.data.toList[i]?=some y:=by rw[<-hy];exact Lib.data_getElem? c i hi
    have l:y.toNat<128:=J.out i y o
    have u:=fun ty=>run_next_ascii (P:=Tryz.prog) w c i ty hi (by rw[hy];exact l)
    rw[hy] at u
    clear o hy
    have U:((y.toNat:Int)==65533)=false:=beq_eq_false_iff_ne.2 oM
    go_wp2
    go_roundg g
    case measure=>omega
    case rel=>exact⟨i+1,by omega,⟨_,rfl⟩,rfl⟩
 ·have h0:¬ ((128:Int)<=(x.toNat:Int)):=by omega
  cases n:c.data.toList.contains x<;>rw[n] at f
  ·have X:¬ ((0:Int)<=Lib.indexByte c.data.toList x):=of_decide_eq_false f.symm
   clear f
   go_enter Tryz.func138,Tryz.ntmps138
   go_wp2
   rw[run_callFunc_extern Tryz.func161 oK oK oK (e:=Extern.BytealgIndexByte.indexByte) oK,Lib.run_indexByteString,B]
   simp only[Result.andThen]
   rw[Oper.upon_value]
   go_wp2
   go_ret
   exact⟨by rw[k.out n];rfl,Below.refl _ _⟩
  ·have v0:(0:Int)<=Lib.indexByte c.data.toList x:=UT f.symm
   clear f
   go_enter Tryz.func138,Tryz.ntmps138
   go_wp2
   rw[run_callFunc_extern Tryz.func161 oK oK oK (e:=Extern.BytealgIndexByte.indexByte) oK,Lib.run_indexByteString,B]
   simp only[Result.andThen]
   rw[Oper.upon_value]
   go_wp2
   go_ret
   exact⟨by rw[HT.out n];rfl,Below.refl _ _⟩
end Go.Proofs.YtgmnipfafmphaaaGreatDoor
namespace Go.Proofs.YtgmnipfafmphaaaGreatDoor
set_option linter.unusedSimpArgs false
set_option linter.unusedVariables false
open Go.RowKit Go.Shelf Go.Lib
variable {c e:ByteArray} {i k:Nat} {s:ByteArray}
theorem wO (d:∀ (j:Nat) b,c.data.toList[j]?=some b->b.toNat<128) (h:NoAny s.data.toList c.data.toList i) (hk:∀ j,j<k->i+j<s.size/\128<=(s.get! (i+j)).toNat):NoAny s.data.toList c.data.toList (i+k):=fun j b hj hb=>by
 by_cases f:j<i
 ·exact h j b f hb
 ·obtain⟨h1,h2⟩:=hk (j - i) oM
  rw[show i+(j - i)=j by omega] at h1 h2
  have E:=Lib.data_getElem? s j h1
  rw[E] at hb
  cases hb
  have h4:=get_at s j h1
  rw[Ul] at h4
  rw[h4] at h2
  exact IA d h2
theorem Qu (d:∀ (j:Nat) b,c.data.toList[j]?=some b->b.toNat<128) (hs:1<=e.size) (h:128<=(e.get! 0).toNat):c≠e:=fun he=>by
 subst he
 have h4:=get_at c 0 oM
 rw[Ul] at h4
 rw[h4] at h
 have:=d 0 _ (Lib.data_getElem? c 0 oM)
 omega
theorem Ot (h:c≠e):(c.toList==e.toList)=false:=by
 cases hb:c.toList==e.toList with
 |false=>rfl
 |true=>
  have h2:=beq_iff_eq.1 hb
  rw[Lib.toList_data,Lib.toList_data] at h2
  exact absurd (ByteArray.ext (Array.ext' h2)) h
theorem Ou (d:∀ (j:Nat) b,c.data.toList[j]?=some b->b.toNat<128) {r:Nat} (H:Or s i r k) (D:r≠65533):(c.toList==(Utf8.encode (r:Int)).toList)=false:=
 Ot (Qu d (by obtain⟨q1,W,_⟩:=H.enc D;omega) (H.enc D).2.2)
theorem Qv:Tryz.prog.globals.findIdx? (·.name== "internal/bytealg.MaxLen")=some 0:=oK
theorem Ov (c e:ByteArray) (w:World) (m:Int) (Z:w.cell? ⟨0,0,none⟩=some (.int .i64 m)) (h2:2<=e.size) (hb:(e.size:Int)<=m) (hc:c.size<=e.size) (U:(e.toList==c.toList)=false) (hs:c.size<4294967281):
  (callFunc 168 #[.string c,.string e]).run Tryz.prog w= .ok (.value (.int .i64 (-1))) w:=by
 rw[run_callFunc_extern Tryz.func168 oK oK oK (e:=Extern.BytealgIndex.index) oK,Lib.run_indexString c e w 0 m Qv Z h2 hb hs,show Lib.index c.data.toList e.data.toList= -1 from Lib.long c e hc U]
 rfl
set_option maxHeartbeats 2000000 in
set_option maxRecDepth 1000000 in
theorem Mo (s:ByteArray) (b off N:Nat) (c:ByteArray) (w:World) (m:Int) (z:s.size<=N) (hB:Ko s b off w) (h2:c.size=2) (h8:s.size<=8) (h1:s.size≠1) (hT:Lib.Utf8Tabs 4 5 w) (Z:w.cell? ⟨0,0,none⟩=some (.int .i64 m)) (d:∀ (j:Nat) b,c.data.toList[j]?=some b->b.toNat<128):
  Calls Tryz.prog 138 #[.slice (some ⟨b,off,none⟩) s.size N,.string c] w fun e w'=>e= .returned (.int .i64 (Lib.indexAny s.data.toList c.data.toList))/\Below w.heap.size w w':=by
 have J:Aside (∀ (j:Nat) b,c.data.toList[j]?=some b->b.toNat<128):=d
 clear d
 have I:c.toList.isEmpty=false:=by
  rw[Lib.toList_data]
  cases h:c.data.toList with
  |nil=>have:=Lib.size_eq c;rw[h,S3] at this;omega
  |cons _ _=>rfl
 have C:((s.size:Int)==1)=false:=beq_eq_false_iff_ne.2 oM
 have r:((c.size:Int)==1)=false:=beq_eq_false_iff_ne.2 oM
 have O:decide ((8:Int)<(s.size:Int))=false:=TZ oM
 have HT:Aside (Lib.Utf8Tabs 4 5 w):=hT
 have HB:Aside (Ko s b off w):=hB
 have HM:Aside (w.cell? ⟨0,0,none⟩=some (.int .i64 m)):=Z
 clear hT hB Z
 have t3:=Tryz.underlying3;have a3:=Tryz.isAgg3;have z3:=Tryz.sizeOf3;have v3:=Tryz.zeroValue3
 have t4:=Tryz.underlying4;have a4:=Tryz.isAgg4;have z4:=Tryz.sizeOf4;have v4:=Tryz.zeroValue4
 have t5:=Tryz.underlying5;have a5:=Tryz.isAgg5;have z5:=Tryz.sizeOf5;have v5:=Tryz.zeroValue5
 have t9:=Tryz.underlying9;have a9:=Tryz.isAgg9;have z9:=Tryz.sizeOf9;have v9:=Tryz.zeroValue9
 have t21:=Tryz.underlying21;have a21:=Tryz.isAgg21;have z21:=Tryz.sizeOf21;have v21:=Tryz.zeroValue21
 have t22:=Tryz.underlying41;have a22:=Tryz.isAgg41;have z22:=Tryz.sizeOf41;have v22:=Tryz.zeroValue41
 have e1:∀ args w,(callFunc 164 args).run Tryz.prog w= .ok (.enter 164 args) w:=enters_of Tryz.func164 oK rfl
 have e2:∀ args w,(callFunc 167 args).run Tryz.prog w= .ok (.enter 167 args) w:=enters_of Tryz.func167 oK rfl
 go_enter Tryz.func138,Tryz.ntmps138
 go_wp2_with (go_at_fn 164;refine(x7 _ _).mono ?_;rintro e w' ⟨rfl,G⟩;rw[G,O])
 go_loopg [11,12] s.size (fun gf h3 h4 E=>∃ pos:Nat,h4= .int .i64 pos/\(∃ k:Int,h3= .int .i64 k)/\pos<=s.size/\Below w.heap.size w E/\Lib.NoAny s.data.toList c.data.toList pos/\s.size<=pos+gf)
 case atStart=>exact⟨0,rfl,⟨0,rfl⟩,TK _,Below.refl _ _,Lib.NoAny.zero _ _,by omega⟩
 case round=>
  obtain⟨pos,rfl,⟨k0,rfl⟩,r8,s1,r1,S⟩:=hrel
  have D:Aside (Lib.NoAny s.data.toList c.data.toList pos):=r1
  clear r1
  by_cases A:pos<s.size
  ·obtain⟨F,rfl⟩:∃ F,gk=F+1:=⟨gk - 1,by omega⟩
   have r0:(pos:Int)<(s.size:Int):=by omega
   obtain⟨x,hx⟩:∃ x:UInt8,s[pos]'A=x:=⟨_,rfl⟩
   have r6:s.data.toList[pos]?=some x:=by rw[<-hx];exact Lib.data_getElem? s pos A
   have Y:Aside (s.data.toList[pos]?=some x):=r6
   have L:=HB.out.below s1 pos A
   have T:s.get! pos=x:=by rw[<-hx];exact get_at s pos A
   rw[T] at L
   have B:((x.toNat:Int)).toNat.toUInt8=x:=by simp
   have r2:wrap32 (x.toNat:Int)=(x.toNat:Int):=by have:=UInt8.toNat_lt x;unfold wrap32;omega
   by_cases p:128<=x.toNat
   ·have h0:(128:Int)<=(x.toNat:Int):=by omega
    have h6:¬ ((x.toNat:Int)<128):=by omega
    have H:=Mn s pos A (by rw[T];exact p)
    have cD:=Any7.utf8_DecodeRune {Tryz.lays32 with} (s.extract pos s.size) b (off+pos) (N - pos) wr (Utf8Tabs_below HT.out s1) ((HB.out.below s1).tail pos)
    rw[Lib.tail_size,Mk s pos A] at cD
    have q:=Lib.rune_le s pos
    obtain⟨R,t⟩:∃ R,(Utf8.decode s pos).1=R:=⟨_,rfl⟩
    obtain⟨K,hK⟩:∃ K,(Utf8.decode s pos).2=K:=⟨_,rfl⟩
    rw[t,hK] at cD H
    rw[t] at q
    have V:pos+K<=s.size:=by have:=(H.all (K - 1) (by have:=H.pos;omega)).1;have:=H.pos;omega
    have M:Aside (Or s pos R K):=H
    have r3:=H.rune
    have w4:=H.pos
    clear hx r6 T t hK H
    have h7:∀ W,Below wr.heap.size wr W->W.cell? ⟨0,0,none⟩=some (.int .i64 m):=fun W s4=>((s1.trans (s4.mono s1.size)).cell (block_lt_of_cell HM.out)).trans HM.out
    have HX:Aside (∀ W,Below wr.heap.size wr W->W.cell? ⟨0,0,none⟩=some (.int .i64 m)):=h7
    clear h7
    by_cases t:R=65533
    ·subst t
     go_wp2_with (go_at_fn 167;go_fit cD;rintro e W ⟨rfl,s4⟩)
     have a:Below w.heap.size w W:=s1.trans (s4.mono s1.size)
     go_loopg [15] 2 (fun g h5 E=>∃ i:Nat,i+g=2/\E=W.iter c i/\(∃ v,h5=v))
     case atStart=>exact⟨0,by omega,rfl,_,rfl⟩
     case round=>
      obtain⟨i,Q,rfl,v,rfl⟩:=hrel
      cases gk with
      |zero=>
       obtain rfl:i=2:=by omega
       have u:=fun ty=>run_next_end (P:=Tryz.prog) W c 2 ty oM
       go_wp2
       go_roundg F
       case measure=>omega
       case rel=>exact⟨pos+K,by go_num,⟨_,rfl⟩,V,a.alloc a.size _,wO J.out D.out M.out.all,by omega⟩
      |succ g=>
       have hi:i<c.size:=by omega
       obtain⟨y,hy⟩:∃ y:UInt8,c[i]'hi=y:=⟨_,rfl⟩
       have o:c.data.toList[i]?=some y:=by rw[<-hy];exact Lib.data_getElem? c i hi
       have l:y.toNat<128:=J.out i y o
       have u:=fun ty=>run_next_ascii (P:=Tryz.prog) W c i ty hi (by rw[hy];exact l)
       rw[hy] at u
       clear o hy
       have U:((65533:Int)==(y.toNat:Int))=false:=beq_eq_false_iff_ne.2 oM
       go_wp2
       go_roundg g
       case measure=>omega
       case rel=>exact⟨i+1,by omega,rfl,_,rfl⟩
    ·have h9:=Ou J.out M.out t
     have r9:=(M.out.enc t).1
     have s0:((R:Int)==65533)=false:=beq_eq_false_iff_ne.2 oM
     by_cases w6:K=2
     ·have r4:((2:Int)==(K:Int))=true:=beq_iff_eq.2 oM
      go_wp2_with (go_at_fn 167;go_fit cD;rintro e W ⟨rfl,s4⟩)
      have a:Below w.heap.size w W:=s1.trans (s4.mono s1.size)
      go_roundg F
      case measure=>omega
      case rel=>exact⟨pos+K,by go_num,⟨_,rfl⟩,V,a,wO J.out D.out M.out.all,by omega⟩
     ·have r4:((2:Int)==(K:Int))=false:=beq_eq_false_iff_ne.2 oM
      by_cases s2:(K:Int)<=m
      ·have r5:Aside (∀ W,Below wr.heap.size wr W->(callFunc 168 #[.string c,.string (Utf8.encode (R:Int))]).run Tryz.prog W= .ok (.value (.int .i64 (-1))) W):=fun W hW=>Ov c _ W m (HX.out W hW) (by rw[(M.out.enc t).2.1];omega) (by rw[(M.out.enc t).2.1];omega) (by rw[(M.out.enc t).2.1];omega) (by rw[Bool.beq_comm];exact h9) oM
       go_wp2_with (go_at_fn 167;go_fit cD;rintro e W ⟨rfl,s4⟩;have r7:=HX.out W s4;have s3:=r5.out W s4)
       have a:Below w.heap.size w W:=s1.trans (s4.mono s1.size)
       go_roundg F
       case measure=>omega
       case rel=>exact⟨pos+K,by go_num,⟨_,rfl⟩,V,a,wO J.out D.out M.out.all,by omega⟩
      ·go_wp2_with (go_at_fn 167;go_fit cD;rintro e W ⟨rfl,s4⟩;have r7:=HX.out W s4)
       have a:Below w.heap.size w W:=s1.trans (s4.mono s1.size)
       go_loopg [15] 2 (fun g h5 E=>∃ i:Nat,i+g=2/\E=W.iter c i/\(∃ v,h5=v))
       case atStart=>exact⟨0,by omega,rfl,_,rfl⟩
       case round=>
        obtain⟨i,Q,rfl,v,rfl⟩:=hrel
        cases gk with
        |zero=>
         obtain rfl:i=2:=by omega
         have u:=fun ty=>run_next_end (P:=Tryz.prog) W c 2 ty oM
         go_wp2
         go_roundg F
         case measure=>omega
         case rel=>exact⟨pos+K,by go_num,⟨_,rfl⟩,V,a.alloc a.size _,wO J.out D.out M.out.all,by omega⟩
        |succ g=>
         have hi:i<c.size:=by omega
         obtain⟨y,hy⟩:∃ y:UInt8,c[i]'hi=y:=⟨_,rfl⟩
         have o:c.data.toList[i]?=some y:=by rw[<-hy];exact Lib.data_getElem? c i hi
         have l:y.toNat<128:=J.out i y o
         have u:=fun ty=>run_next_ascii (P:=Tryz.prog) W c i ty hi (by rw[hy];exact l)
         rw[hy] at u
         clear o hy
         have U:((R:Int)==(y.toNat:Int))=false:=beq_eq_false_iff_ne.2 oM
         go_wp2
         go_roundg g
         case measure=>omega
         case rel=>exact⟨i+1,by omega,rfl,_,rfl⟩
   ·have h0:¬ ((128:Int)<=(x.toNat:Int)):=by omega
    have h6:(x.toNat:Int)<128:=by omega
    have f:=Lib.contains_iff_indexByte c.data.toList x
    clear hx r6 T
    cases n:c.data.toList.contains x<;>rw[n] at f
    ·have X:¬ ((0:Int)<=Lib.indexByte c.data.toList x):=of_decide_eq_false f.symm
     clear f
     go_wp2_with (rw[run_callFunc_extern Tryz.func161 oK oK oK (e:=Extern.BytealgIndexByte.indexByte) oK,Lib.run_indexByteString,B];simp only[Result.andThen];rw[Oper.upon_value])
     go_roundg F
     case measure=>omega
     case rel=>exact⟨pos+1,by go_num,⟨_,rfl⟩,by omega,s1,D.out.succ Y.out n,by omega⟩
    ·have v0:(0:Int)<=Lib.indexByte c.data.toList x:=UT f.symm
     clear f
     go_wp2_with (rw[run_callFunc_extern Tryz.func161 oK oK oK (e:=Extern.BytealgIndexByte.indexByte) oK,Lib.run_indexByteString,B];simp only[Result.andThen];rw[Oper.upon_value])
     go_ret
     exact⟨by rw[Lib.indexAny_hit D.out Y.out n];rfl,s1⟩
  ·obtain rfl:pos=s.size:=by omega
   have r0:¬ ((s.size:Int)<(s.size:Int)):=by omega
   go_wp2
   go_ret
   exact⟨by rw[Lib.indexAny_none (by rw[<-Lib.size_eq];exact D.out)];rfl,s1⟩
end Go.Proofs.YtgmnipfafmphaaaGreatDoor
namespace Go.Proofs.YtgmnipfafmphaaaGreatDoor
set_option linter.unusedSimpArgs false
set_option linter.unusedVariables false
open Go.RowKit Go.Shelf Go.Lib
variable {w:World}
set_option maxHeartbeats 2000000 in
set_option maxRecDepth 1000000 in
theorem Ow (p:Option Addr) (N:Nat) (c:ByteArray) (w:World) (h2:c.size=2):
  Calls Tryz.prog 138 #[.slice p 0 N,.string c] w fun e w'=>e= .returned (.int .i64 (-1))/\w'=w:=by
 have I:c.toList.isEmpty=false:=by
  rw[Lib.toList_data]
  cases h:c.data.toList with
  |nil=>have:=Lib.size_eq c;rw[h,S3] at this;omega
  |cons _ _=>rfl
 have r:((c.size:Int)==1)=false:=beq_eq_false_iff_ne.2 oM
 have O:decide ((8:Int)<0)=false:=by decide
 have t3:=Tryz.underlying3;have a3:=Tryz.isAgg3;have z3:=Tryz.sizeOf3;have v3:=Tryz.zeroValue3
 have t4:=Tryz.underlying4;have a4:=Tryz.isAgg4;have z4:=Tryz.sizeOf4;have v4:=Tryz.zeroValue4
 have t9:=Tryz.underlying9;have a9:=Tryz.isAgg9;have z9:=Tryz.sizeOf9;have v9:=Tryz.zeroValue9
 have t22:=Tryz.underlying41;have a22:=Tryz.isAgg41;have z22:=Tryz.sizeOf41;have v22:=Tryz.zeroValue41
 have e1:∀ args w,(callFunc 164 args).run Tryz.prog w= .ok (.enter 164 args) w:=enters_of Tryz.func164 oK rfl
 go_enter Tryz.func138,Tryz.ntmps138
 go_wp2_with (go_at_fn 164;refine(x7 _ _).mono ?_;rintro e w' ⟨rfl,G⟩;rw[G,O])
 go_loopg [11,12] 0 (fun gf h3 h4 E=>h4= .int .i64 0/\E=w/\∃ v,h3=v)
 case atStart=>exact⟨rfl,rfl,_,rfl⟩
 case round=>
  obtain⟨rfl,rfl,v,rfl⟩:=hrel
  go_wp2
  go_ret
  exact⟨rfl,rfl⟩
theorem BE {w:World} {M:Nat->Prop} {b sz:Nat}:∀ {l:List UInt8} {o:Nat},aQ w M (l.map cP) b o sz->∀ (j:Nat) x,l[j]?=some x->w.cell? ⟨b,o+j,none⟩=some (.int .u8 x.toNat)
 |[],o,_,j,x,hx=>by simp at hx
 |y::l,o,h,j,x,hx=>by
  simp only[Tc] at h
  unfold aQ at h
  obtain⟨h1,h2,E⟩:=h
  have F:sz=1:=by rw[<-h1];rfl
  subst F
  unfold cP bw at h2
  obtain⟨⟨u,hc,_,D⟩,_⟩:=h2
  unfold aW at D
  subst D
  cases j with
  |zero=>
   simp only[Tz,SN] at hx
   subst hx
   simpa using hc
  |succ j=>
   have:=BE E j x (by simpa using hx)
   rwa[show o+1+j=o+(j+1) by omega] at this
theorem Mp:∀ c,c<256->([240,240,240,240,240,240,240,240,240,240,240,240,240,240,240,240,240,240,240,240,240,240,240,240,240,240,240,240,240,240,240,240,240,240,240,240,240,240,240,240,240,240,240,240,240,240,240,240,240,240,240,240,240,240,240,240,240,240,240,240,240,240,240,240,240,240,240,240,240,240,240,240,240,240,240,240,240,240,240,240,240,240,240,240,240,240,240,240,240,240,240,240,240,240,240,240,240,240,240,240,240,240,240,240,240,240,240,240,240,240,240,240,240,240,240,240,240,240,240,240,240,240,240,240,240,240,240,240,241,241,241,241,241,241,241,241,241,241,241,241,241,241,241,241,241,241,241,241,241,241,241,241,241,241,241,241,241,241,241,241,241,241,241,241,241,241,241,241,241,241,241,241,241,241,241,241,241,241,241,241,241,241,241,241,241,241,241,241,241,241,241,241,241,241,2,2,2,2,2,2,2,2,2,2,2,2,2,2,2,2,2,2,2,2,2,2,2,2,2,2,2,2,2,2,19,3,3,3,3,3,3,3,3,3,3,3,3,35,3,3,52,4,4,4,68,241,241,241,241,241,241,241,241,241,241,241]:List Int)[c]?=some ((Lib.firstT c:Nat):Int):=by decide+kernel
theorem Mq:∀ i,i<16->([128,191,160,191,128,159,144,191,128,143,0,0,0,0,0,0,0,0,0,0,0,0,0,0,0,0,0,0,0,0,0,0]:List Int)[2 * i]?=some ((Lib.accLo i:Nat):Int)/\([128,191,160,191,128,159,144,191,128,143,0,0,0,0,0,0,0,0,0,0,0,0,0,0,0,0,0,0,0,0,0,0]:List Int)[2 * i+1]?=some ((Lib.accHi i:Nat):Int):=by decide+kernel
theorem BF {g:Nat} {k:IntKind} {zs:List Int} (h:n_ w (g,k,zs)) (hn:zs≠[]) {c:Nat} {z:Int} (hc:zs[c]?=some z):w.cell? ⟨g,c,none⟩=some (.int k z):=by
 obtain⟨u,f,hh⟩:=h.at hn
 simp only at hh
 unfold World.cell?
 simp only[hh]
 simp[hc]
theorem JV (h:vU w):Lib.Utf8Tabs 4 5 w:=by
 have h1:=h (4,.u8,[240,240,240,240,240,240,240,240,240,240,240,240,240,240,240,240,240,240,240,240,240,240,240,240,240,240,240,240,240,240,240,240,240,240,240,240,240,240,240,240,240,240,240,240,240,240,240,240,240,240,240,240,240,240,240,240,240,240,240,240,240,240,240,240,240,240,240,240,240,240,240,240,240,240,240,240,240,240,240,240,240,240,240,240,240,240,240,240,240,240,240,240,240,240,240,240,240,240,240,240,240,240,240,240,240,240,240,240,240,240,240,240,240,240,240,240,240,240,240,240,240,240,240,240,240,240,240,240,241,241,241,241,241,241,241,241,241,241,241,241,241,241,241,241,241,241,241,241,241,241,241,241,241,241,241,241,241,241,241,241,241,241,241,241,241,241,241,241,241,241,241,241,241,241,241,241,241,241,241,241,241,241,241,241,241,241,241,241,241,241,241,241,241,241,2,2,2,2,2,2,2,2,2,2,2,2,2,2,2,2,2,2,2,2,2,2,2,2,2,2,2,2,2,2,19,3,3,3,3,3,3,3,3,3,3,3,3,35,3,3,52,4,4,4,68,241,241,241,241,241,241,241,241,241,241,241]) (SW (i:=0) rfl)
 have h2:=h (5,.u8,[128,191,160,191,128,159,144,191,128,143,0,0,0,0,0,0,0,0,0,0,0,0,0,0,0,0,0,0,0,0,0,0]) (SW (i:=1) rfl)
 exact⟨fun c hc=>BF h1 (List.cons_ne_nil _ _) (Mp c hc),fun i hi=>⟨BF h2 (List.cons_ne_nil _ _) (Mq i hi).1,BF h2 (List.cons_ne_nil _ _) (Mq i hi).2⟩⟩
theorem Qw (h:vU w):∃ m,w.cell? ⟨0,0,none⟩=some (.int .i64 m):=
 n_.int (t:=(0,.i64,[])) (h (0,.i64,[]) (SW (i:=2) rfl)) rfl
def jy (s c:List UInt8):Option Int:=if s.length<4294967281/\c.length=2/\(c.all fun b=>decide (b.toNat<128))=true then some (Lib.indexAny s c) else none
theorem us (s c:List UInt8):∀ r,jy s c=some r->ac Tryz.prog 138 [.slice (s.map cP),.str c] (.int .i64 r):=by
 intro r D
 unfold jy at D
 split at D
 ·rename_i h
  cases D
  obtain⟨h1,h2,E⟩:=h
  refine⟨by kernel_rfl,fun w M vs hM hv S=> ?_⟩
  simp only[aC] at hv
  obtain⟨u,R,rfl,hu,q,g,rfl,i,rfl⟩:=hv
  unfold aW at i
  subst i
  unfold aW at hu
  obtain⟨a,N,rfl,z,d,k⟩:=hu
  simp only[TL] at z⊢
  have U:(⟨c.toArray⟩:ByteArray).size=2:=by simpa[ByteArray.size] using h2
  have h6:(⟨c.toArray⟩:ByteArray).data.toList=c:=rfl
  have v0:(⟨s.toArray⟩:ByteArray).data.toList=s:=rfl
  have n:(⟨s.toArray⟩:ByteArray).size=s.length:=by simp[ByteArray.size]
  have f:∀ (j:Nat) b,(⟨c.toArray⟩:ByteArray).data.toList[j]?=some b->b.toNat<128:=fun j b hb=>by
   rw[h6] at hb
   simpa using Ti.1 E b (SW hb)
  have fin:Calls Tryz.prog 138 #[.slice a s.length N,.string ⟨c.toArray⟩] w fun e w'=>e= .returned (.int .i64 (Lib.indexAny s c))/\Below w.heap.size w w':=by
   rcases k with h0|⟨b,o,sz,rfl,l,X,K⟩
   ·have h0:s=[]:=by simpa using h0
    subst h0
    refine(Ow a N ⟨c.toArray⟩ w U).mono ?_
    rintro e w' ⟨rfl,rfl⟩
    exact⟨by rw[Lib.indexAny_none (Lib.NoAny.zero _ _)],Below.refl _ _⟩
   ·have hB:Ko ⟨s.toArray⟩ b o w:=fun j hj=>by
     rw[n] at hj
     have:=BE K j s[j] (S0 hj)
     rw[this]
     have hg:=get_at ⟨s.toArray⟩ j (by rw[n];exact hj)
     rw[Ul] at hg
     rw[hg];rfl
    have key:Calls Tryz.prog 138 #[.slice (some ⟨b,o,none⟩) (⟨s.toArray⟩:ByteArray).size N,.string ⟨c.toArray⟩] w fun e w'=>e= .returned (.int .i64 (Lib.indexAny (⟨s.toArray⟩:ByteArray).data.toList (⟨c.toArray⟩:ByteArray).data.toList))/\Below w.heap.size w w':=by
     by_cases g1:s.length=1
     ·exact Qt _ b o N _ w (by rw[n];exact z) hB oM (by rw[n];exact g1) f
     ·by_cases g8:s.length<=8
      ·obtain⟨m,Z⟩:=Qw S
       exact Mo _ b o N _ w m (by rw[n];exact z) hB U (by rw[n];exact g8) (by rw[n];exact g1) (JV S) Z f
      ·exact Oq _ b o N _ w (by rw[n];exact z) hB oM (by rw[n];omega) (by rw[n];exact h1) oM f
    rw[n] at key
    exact key
  refine fin.mono ?_
  rintro e w' ⟨rfl,hb⟩
  refine⟨_,rfl, ?_,hb⟩
  unfold aW
  rfl
 ·cases D
end Go.Proofs.YtgmnipfafmphaaaGreatDoor
namespace Go.Proofs.YtgmnipfafmphaaaGreatDoor
set_option linter.unusedSimpArgs false
set_option linter.unusedVariables false
theorem Pj:∃ n:Nat,1000000<=n:=⟨_,SZ _⟩
noncomputable def FU:Nat:=Classical.choose Pj
theorem Qm:1000000<=FU:=Classical.choose_spec Pj
end Go.Proofs.YtgmnipfafmphaaaGreatDoor
namespace Go.Proofs.YtgmnipfafmphaaaGreatDoor
open Go.RowKit
set_option linter.unusedSimpArgs false
set_option linter.unusedVariables false
noncomputable section
set_option maxRecDepth 100000
set_option maxHeartbeats 40000000
structure ah where
 fKind:Int
 fSegment:Int
 deriving DecidableEq
def af (x:ah):List DV:=[.int .i64 x.fKind,.int .i64 x.fSegment]
attribute [push_cast] af
theorem EA {d0 H:DV} {v0 b:Int} (h0:d0= .int .i64 v0) (h1:H= .int .i64 b):[d0,H]=af ⟨v0,b⟩:=by unfold af;simp only[h0,h1,Td,S8,S6,Tg]
def bp:SC:=(.seq (.seq (.regD (.v 18 9:: .v 19 1:: .k 20 .gtr 18 19:: .v 21 20::bK [22,23,24,25,26,27,28,29,30,31,32,33] 21 true (.v 22 3:: .v 23 0:: .v 24 9:: .y 25 2 23 24:: .r 26 (.ldA 2 (.t 25)):: .v 27 0:: .v 28 9:: .j 29 .sub 28 1:: .y 30 2 27 29:: .r 31 (.ldA 2 (.t 30)):: .c 32 (.t 22) [.t 26,.t 31]:: .j 33 .lss 32 0::[]) (.r 34 (.pick (.t 21) (.t 33) (.b false))::[]))) (.cond (.t 34) .skip (.exit 2))) (.seq (.block 3 (.regE [.v 37 0,.v 38 9,.v 39 0,.v 40 9,.j 41 .sub 40 1,.v 42 0,.v 43 9,.j 44 .sub 43 1,.y 45 2 42 44,.r 46 (.ldA 2 (.t 45)),.v 47 0,.v 48 9,.y 49 2 47 48,.r 50 (.ldA 2 (.t 49)),.y 51 2 37 38,.x 0 (.st 2 (.t 51) (.t 46)) [(2,39,.mv (.t 0)),(3,40,.mv (.t 9)),(4,41,.bin .sub (.t 40) (.i 1))],.y 52 2 39 41,.x 0 (.st 2 (.t 52) (.t 50)) []])) (.reg [.v 35 9,.j 36 .sub 35 1,.v 9 36])))
def cF:SC:= .block 2 (.loop bp)
def bq:SC:=(.seq (.sq [.v 12 8,.v 13 2,.k 14 .lss 12 13] (.cond (.t 14) .skip (.exit 0))) (.seq (.block 1 (.sq [.v 17 8,.v 9 17] cF)) (.reg [.v 15 8,.j 16 .add 15 1,.v 8 16])))
def cG:SC:= .block 0 (.loop bq)
def cY:SC:=(.sq [.v 10 1,.j 11 .add 10 1,.v 8 11] cG)
theorem f0:fits Tryz.prog 136 Tryz.f136 cY [] 4=true:=oK
def tD:(∀ (B:List ah) (x1:Int) (x2:Int) (O:FuncId) (S:List DV) (h:ah->ah->Option (Int)) (E:∀ a0 M r,h a0 M=some r->ac Tryz.prog O ([.agg (af a0),.agg (af M)]++S) (.int .i64 r)),{m:Option ((Unit)×(List ah))//∀ r,m=some r->bu Tryz.prog 136 (.own (.sl 69 (List.replicate 2 .sh)) (.slice (List.map af B))::(List.map SV.d ([.int .i64 x1,.int .i64 x2,.fn O S]:List DV))) (.tup []) (.own (.sl 69 (List.replicate 2 .sh)) (.slice (List.map af r.2))::(List.map SV.d ([.int .i64 x1,.int .i64 x2,.fn O S]:List DV)))}):=by
 (intro B x1 x2 O S h E;apply Subtype.mk;intro r Z;apply js (N:=53) (k:=4) Tryz.func136 f0 oK rfl (mU (H:=af) (n:=2) (fun _=>rfl) B) rfl oD;unfold cY)
 repeat'(first|with_reducible refine cC ?_|with_reducible refine cv ?_|with_reducible refine fl ?_|with_reducible refine jH ?_|with_reducible refine bn ?_|with_reducible refine b5 ?_|with_reducible refine cN ?_|with_reducible refine cw ?_|with_reducible refine cE ?_|with_reducible refine cO ?_|with_reducible refine bD ?_|((with_reducible apply wt Z);(iterate 3 (simp only[push_cast,seval];rfl));intro e Z)|((with_reducible apply iC);(simp only[push_cast,seval];rfl);(first|exact trivial))|((with_reducible apply zz Z);(iterate 2 (simp only[push_cast,seval];rfl));(intro _;rfl);intro e Z)|((with_reducible apply nx Z);(simp only[push_cast,seval];rfl);rfl;intro v Z;rotate_left;intro v g Z)|((with_reducible apply FS Z);(iterate 2 (simp only[push_cast,seval];rfl));(focus(first|exact E _ _));intro x Z)|((with_reducible apply Hk Z);(iterate 3 (simp only[push_cast,seval];rfl));rfl;(intro _;rfl);rfl;(focus(intro a;simp only[push_cast,seval];rfl));(focus(intro a;(repeat'(first|rfl));done));(focus(intro _;(repeat'(first|exact bV|((with_reducible apply cn);(focus(simp only[push_cast,seval];rfl));(focus(first|exact trivial));(focus(simp only[push_cast,seval])))));done));intro e Z)|((with_reducible apply bv Z);(simp only[push_cast,seval];rfl);intro Z;rotate_left;intro Z)|((with_reducible apply fL Z);(simp only[push_cast,seval];rfl))|((with_reducible apply cp Z);intro r Z)|((apply aA (b:=2) (X:=cF) (x:=bp) rfl (fun(c:SV×SV×SV×SV×SV×SV×SV) (s:(List ah)×Int)=>st [(0,.vec 0),(1,c.1),(2,c.2.1),(3,c.2.2.1),(8,c.2.2.2.1),(9,.d (.int .i64 s.2)),(53,.vec 0),(54,c.2.2.2.2.1),(55,c.2.2.2.2.2.1),(56,c.2.2.2.2.2.2)] [(0,.vec 69 2 (aM af s.1))]) (c:=(_,_,_,_,_,_,_)) (s0:=(_,_)) Z);(focus(first|(dsimp only;done)));(with_reducible refine cS.mk ?_ ?_))|((apply aA (b:=0) (X:=cG) (x:=bq) rfl (fun(c:SV×SV×SV×SV×SV×SV) (s:(List ah)×Int)=>st [(0,.vec 0),(1,c.1),(2,c.2.1),(3,c.2.2.1),(8,.d (.int .i64 s.2)),(53,.vec 0),(54,c.2.2.2.1),(55,c.2.2.2.2.1),(56,c.2.2.2.2.2)] [(0,.vec 69 2 (aM af s.1))]) (c:=(_,_,_,_,_,_)) (s0:=(_,_)) Z);(focus(first|(dsimp only;done)));(with_reducible refine cS.mk ?_ ?_))|((apply cr (s':=(_,_)) Z);(focus(first|(dsimp only;done))))|((apply ew (s':=(_,_)) Z);(focus(first|(dsimp only;done))))|(((with_reducible apply nQ Z (a:=()));(focus(exact bm.refl _));(focus(simp only[push_cast,seval];(try rfl);done));(focus((repeat'(first|(with_reducible first|apply dt)));done));(focus(intro _;rfl));(focus(simp only[push_cast,seval];(try rfl);done));(focus(simp only[push_cast,seval];(try rfl);done));(focus(simp only[push_cast,seval];(try rfl);done));(focus(simp only[push_cast,seval];(try rfl);done));(focus(first|exact wx))))|(((with_reducible apply fe.of);(focus(first|(dsimp only;done)));(focus((intro _;repeat'(first|with_reducible exact ga|with_reducible refine b_ ?_|with_reducible refine gj ?_|((with_reducible refine ja ?_);intro _)|((with_reducible refine jb ?_);intro _)))));(intro s o Z;first|unfold bp|unfold bq);rotate_left;intro s Z))|(((apply bH;(repeat'(first|with_reducible exact aR|with_reducible exact aS|with_reducible apply aK|with_reducible apply be|((with_reducible apply aV);(focus(first|(simp only[push_cast,seval];rfl)));(focus((repeat'(first|rfl));done)))|((with_reducible apply cZ);(focus(first|(simp only[push_cast,seval];rfl)));(first|with_reducible exact aN rfl))));done))))
def bQ (B:List ah) (x1 x2:Int) (O:FuncId) (S:List DV) (h:ah->ah->Option (Int)) (E:∀ a0 M r,h a0 M=some r->ac Tryz.prog O ([.agg (af a0),.agg (af M)]++S) (.int .i64 r)):Option ((Unit)×(List ah)):=(tD B x1 x2 O S h E).1
theorem fS (B:List ah) (x1 x2:Int) (O:FuncId) (S:List DV) (h:ah->ah->Option (Int)) (E:∀ a0 M r,h a0 M=some r->ac Tryz.prog O ([.agg (af a0),.agg (af M)]++S) (.int .i64 r)):∀ r,bQ B x1 x2 O S h E=some r->bu Tryz.prog 136 (.own (.sl 69 (List.replicate 2 .sh)) (.slice (List.map af B))::(List.map SV.d ([.int .i64 x1,.int .i64 x2,.fn O S]:List DV))) (.tup []) (.own (.sl 69 (List.replicate 2 .sh)) (.slice (List.map af r.2))::(List.map SV.d ([.int .i64 x1,.int .i64 x2,.fn O S]:List DV))):=(tD B x1 x2 O S h E).2
def bR:SC:=(.seq (.sq [.v 11 10,.v 12 3,.k 13 .lss 11 12] (.cond (.t 13) .skip (.exit 0))) (.seq (.block 1 (.regE [.v 16 0,.v 17 1,.v 18 10,.k 19 .add 17 18,.v 20 0,.v 21 2,.v 22 10,.k 23 .add 21 22,.v 24 0,.v 25 2,.v 26 10,.k 27 .add 25 26,.y 28 2 24 27,.r 29 (.ldA 2 (.t 28)),.v 30 0,.v 31 1,.v 32 10,.k 33 .add 31 32,.y 34 2 30 33,.r 35 (.ldA 2 (.t 34)),.y 36 2 16 19,.x 0 (.st 2 (.t 36) (.t 29)) [(4,20,.mv (.t 0)),(5,21,.mv (.t 2)),(6,22,.mv (.t 10)),(7,23,.bin .add (.t 21) (.t 22))],.y 37 2 20 23,.x 0 (.st 2 (.t 37) (.t 35)) []])) (.reg [.v 14 10,.j 15 .add 14 1,.v 10 15])))
def c6:SC:= .block 0 (.loop bR)
def dy:SC:=(.sq [.r 10 (.mv (.i 0))] c6)
theorem gF:fits Tryz.prog 182 Tryz.f182 dy [] 5=true:=oK
def tE:(∀ (B:List ah) (x1:Int) (x2:Int) (d:Int) (f:FuncId) (i:List DV) (j:ah->ah->Option (Int)) (h4:∀ a0 M r,j a0 M=some r->ac Tryz.prog f ([.agg (af a0),.agg (af M)]++i) (.int .i64 r)),{m:Option ((Unit)×(List ah))//∀ r,m=some r->bu Tryz.prog 182 (.own (.sl 69 (List.replicate 2 .sh)) (.slice (List.map af B))::(List.map SV.d ([.int .i64 x1,.int .i64 x2,.int .i64 d,.fn f i]:List DV))) (.tup []) (.own (.sl 69 (List.replicate 2 .sh)) (.slice (List.map af r.2))::(List.map SV.d ([.int .i64 x1,.int .i64 x2,.int .i64 d,.fn f i]:List DV)))}):=by
 (intro B x1 x2 d f i j h4;apply Subtype.mk;intro r Z;apply js (N:=38) (k:=5) Tryz.func182 gF oK rfl (mU (H:=af) (n:=2) (fun _=>rfl) B) rfl oD;unfold dy)
 repeat'(first|with_reducible refine cC ?_|with_reducible refine cv ?_|with_reducible refine jH ?_|with_reducible refine bn ?_|with_reducible refine b5 ?_|with_reducible refine cN ?_|with_reducible refine cw ?_|with_reducible refine cE ?_|with_reducible refine cO ?_|with_reducible refine bD ?_|((with_reducible apply wt Z);(iterate 3 (simp only[push_cast,seval];rfl));intro e Z)|((with_reducible apply iC);(simp only[push_cast,seval];rfl);(first|exact trivial))|((with_reducible apply zz Z);(iterate 2 (simp only[push_cast,seval];rfl));(intro _;rfl);intro e Z)|((with_reducible apply Hk Z);(iterate 3 (simp only[push_cast,seval];rfl));rfl;(intro _;rfl);rfl;(focus(intro a;simp only[push_cast,seval];rfl));(focus(intro a;(repeat'(first|rfl));done));(focus(intro _;(repeat'(first|exact bV|((with_reducible apply cn);(focus(simp only[push_cast,seval];rfl));(focus(first|exact trivial));(focus(simp only[push_cast,seval])))));done));intro e Z)|((with_reducible apply bv Z);(simp only[push_cast,seval];rfl);intro Z;rotate_left;intro Z)|((with_reducible apply cp Z);intro r Z)|((apply aA (b:=0) (X:=c6) (x:=bR) rfl (fun(c:SV×SV×SV×SV×SV×SV×SV) (s:(List ah)×Int)=>st [(0,.vec 0),(1,c.1),(2,c.2.1),(3,c.2.2.1),(10,.d (.int .i64 s.2)),(38,.vec 0),(39,c.2.2.2.1),(40,c.2.2.2.2.1),(41,c.2.2.2.2.2.1),(42,c.2.2.2.2.2.2)] [(0,.vec 69 2 (aM af s.1))]) (c:=(_,_,_,_,_,_,_)) (s0:=(_,_)) Z);(focus(first|(dsimp only;done)));(with_reducible refine cS.mk ?_ ?_))|((apply cr (s':=(_,_)) Z);(focus(first|(dsimp only;done))))|((apply ew (s':=(_,_)) Z);(focus(first|(dsimp only;done))))|(((with_reducible apply nQ Z (a:=()));(focus(exact bm.refl _));(focus(simp only[push_cast,seval];(try rfl);done));(focus((repeat'(first|(with_reducible first|apply dt)));done));(focus(intro _;rfl));(focus(simp only[push_cast,seval];(try rfl);done));(focus(simp only[push_cast,seval];(try rfl);done));(focus(simp only[push_cast,seval];(try rfl);done));(focus(simp only[push_cast,seval];(try rfl);done));(focus(first|exact wx))))|(((with_reducible apply fe.of);(focus(first|(dsimp only;done)));(focus((intro _;repeat'(first|with_reducible exact ga))));(intro s o Z;first|unfold bR);rotate_left;intro s Z))|(((apply bH;(repeat'(first|with_reducible exact aR|with_reducible exact aS|with_reducible apply aK|with_reducible apply be|((with_reducible apply aV);(focus(first|(simp only[push_cast,seval];rfl)));(focus((repeat'(first|rfl));done)))|((with_reducible apply cZ);(focus(first|(simp only[push_cast,seval];rfl)));(first|with_reducible exact aN rfl))));done))))
def cg (B:List ah) (x1 x2 d:Int) (f:FuncId) (i:List DV) (j:ah->ah->Option (Int)) (h4:∀ a0 M r,j a0 M=some r->ac Tryz.prog f ([.agg (af a0),.agg (af M)]++i) (.int .i64 r)):Option ((Unit)×(List ah)):=(tE B x1 x2 d f i j h4).1
theorem gz (B:List ah) (x1 x2 d:Int) (f:FuncId) (i:List DV) (j:ah->ah->Option (Int)) (h4:∀ a0 M r,j a0 M=some r->ac Tryz.prog f ([.agg (af a0),.agg (af M)]++i) (.int .i64 r)):∀ r,cg B x1 x2 d f i j h4=some r->bu Tryz.prog 182 (.own (.sl 69 (List.replicate 2 .sh)) (.slice (List.map af B))::(List.map SV.d ([.int .i64 x1,.int .i64 x2,.int .i64 d,.fn f i]:List DV))) (.tup []) (.own (.sl 69 (List.replicate 2 .sh)) (.slice (List.map af r.2))::(List.map SV.d ([.int .i64 x1,.int .i64 x2,.int .i64 d,.fn f i]:List DV))):=(tE B x1 x2 d f i j h4).2
def cb:SC:=(.seq (.sq [.v 18 10,.v 19 11,.k 20 .neq 18 19] (.cond (.t 20) .skip (.exit 0))) (.block 1 (.sq [.v 21 10,.v 22 11,.k 23 .gtr 21 22] (.cond (.t 23) (.sq [.v 24 0,.v 25 2,.v 26 10,.k 27 .sub 25 26,.v 28 2,.v 29 11,.v 30 4,.p (some 31) (.f 182) [.t 24,.t 27,.t 28,.t 29,.t 30]] (.reg [.v 32 10,.v 33 11,.k 34 .sub 32 33,.v 10 34])) (.sq [.v 35 0,.v 36 2,.v 37 10,.k 38 .sub 36 37,.v 39 2,.v 40 11,.k 41 .add 39 40,.v 42 10,.k 43 .sub 41 42,.v 44 10,.v 45 4,.p (some 46) (.f 182) [.t 35,.t 38,.t 43,.t 44,.t 45]] (.reg [.v 47 11,.v 48 10,.k 49 .sub 47 48,.v 11 49]))))))
def dz:SC:= .block 0 (.loop cb)
def ef:SC:=(.sq [.v 12 2,.v 13 1,.k 14 .sub 12 13,.v 10 14] (.sq [.v 15 3,.v 16 2,.k 17 .sub 15 16,.v 11 17] (.seq dz (.reg [.v 50 0,.v 51 2,.v 52 10,.k 53 .sub 51 52,.v 54 2,.v 55 10,.v 56 4,.p (some 57) (.f 182) [.t 50,.t 53,.t 54,.t 55,.t 56]]))))
theorem hL:fits Tryz.prog 162 Tryz.f162 ef [] 5=true:=oK
def tF:(∀ (B:List ah) (x1:Int) (x2:Int) (d:Int) (f:FuncId) (i:List DV) (j:ah->ah->Option (Int)) (h4:∀ a0 M r,j a0 M=some r->ac Tryz.prog f ([.agg (af a0),.agg (af M)]++i) (.int .i64 r)),{m:Option ((Unit)×(List ah))//∀ r,m=some r->bu Tryz.prog 162 (.own (.sl 69 (List.replicate 2 .sh)) (.slice (List.map af B))::(List.map SV.d ([.int .i64 x1,.int .i64 x2,.int .i64 d,.fn f i]:List DV))) (.tup []) (.own (.sl 69 (List.replicate 2 .sh)) (.slice (List.map af r.2))::(List.map SV.d ([.int .i64 x1,.int .i64 x2,.int .i64 d,.fn f i]:List DV)))}):=by
 (intro B x1 x2 d f i j h4;apply Subtype.mk;intro r Z;apply js (N:=58) (k:=5) Tryz.func162 hL oK rfl (mU (H:=af) (n:=2) (fun _=>rfl) B) rfl oD;unfold ef)
 repeat'(first|with_reducible refine cC ?_|with_reducible refine cv ?_|with_reducible refine bn ?_|with_reducible refine b5 ?_|with_reducible refine cN ?_|with_reducible refine cw ?_|with_reducible refine cE ?_|with_reducible refine cO ?_|with_reducible refine bD ?_|((with_reducible apply iC);(simp only[push_cast,seval];rfl);(first|exact trivial))|((with_reducible apply bv Z);(simp only[push_cast,seval];rfl);intro Z;rotate_left;intro Z)|((with_reducible apply cp Z);intro r Z)|((apply aA (b:=0) (X:=dz) (x:=cb) rfl (fun(c:SV×SV×SV×SV×SV×SV) (s:(List ah)×Int×Int)=>st [(0,.vec 0),(2,c.1),(4,c.2.1),(10,.d (.int .i64 s.2.1)),(11,.d (.int .i64 s.2.2)),(58,.vec 0),(59,c.2.2.1),(60,c.2.2.2.1),(61,c.2.2.2.2.1),(62,c.2.2.2.2.2)] [(0,.vec 69 2 (aM af s.1))]) (c:=(_,_,_,_,_,_)) (s0:=(_,_,_)) Z);(focus(first|(dsimp only;done)));(with_reducible refine cS.mk ?_ ?_))|((apply cr (s':=(_,_,_)) Z);(focus(first|(dsimp only;done))))|((apply ew (s':=(_,_,_)) Z);(focus(first|(dsimp only;done))))|(((with_reducible apply vm Z);(focus(simp only[push_cast,seval];(try rfl);done));(focus(simp only[push_cast,seval];(try rfl);done));(focus(simp only[push_cast,seval];(try rfl);done));(focus(intro _;rfl));(focus(first|apply gz _ _ _ _ _ _ _ h4));(any_goals(focus((repeat'(first|rfl));done)));(focus(intro _;exact⟨rfl,rfl⟩));intro y Z))|(((with_reducible apply nQ Z (a:=()));(focus(exact bm.refl _));(focus(simp only[push_cast,seval];(try rfl);done));(focus((repeat'(first|(with_reducible first|apply dt)));done));(focus(intro _;rfl));(focus(simp only[push_cast,seval];(try rfl);done));(focus(simp only[push_cast,seval];(try rfl);done));(focus(simp only[push_cast,seval];(try rfl);done));(focus(simp only[push_cast,seval];(try rfl);done));(focus(first|exact wx))))|(((with_reducible apply fe.of);(focus(first|(dsimp only;done)));(focus((intro _;repeat'(first|with_reducible exact ga|with_reducible refine b_ ?_))));(intro s o Z;first|unfold cb);rotate_left;intro s Z))|(((apply bH;(repeat'(first|with_reducible exact aR|with_reducible exact aS|with_reducible apply aK|with_reducible apply be|((with_reducible apply aV);(focus(first|(simp only[push_cast,seval];rfl)));(focus((repeat'(first|rfl));done)))|((with_reducible apply cZ);(focus(first|(simp only[push_cast,seval];rfl)));(first|with_reducible exact aN rfl))));done))))
def ct (B:List ah) (x1 x2 d:Int) (f:FuncId) (i:List DV) (j:ah->ah->Option (Int)) (h4:∀ a0 M r,j a0 M=some r->ac Tryz.prog f ([.agg (af a0),.agg (af M)]++i) (.int .i64 r)):Option ((Unit)×(List ah)):=(tF B x1 x2 d f i j h4).1
theorem hf (B:List ah) (x1 x2 d:Int) (f:FuncId) (i:List DV) (j:ah->ah->Option (Int)) (h4:∀ a0 M r,j a0 M=some r->ac Tryz.prog f ([.agg (af a0),.agg (af M)]++i) (.int .i64 r)):∀ r,ct B x1 x2 d f i j h4=some r->bu Tryz.prog 162 (.own (.sl 69 (List.replicate 2 .sh)) (.slice (List.map af B))::(List.map SV.d ([.int .i64 x1,.int .i64 x2,.int .i64 d,.fn f i]:List DV))) (.tup []) (.own (.sl 69 (List.replicate 2 .sh)) (.slice (List.map af r.2))::(List.map SV.d ([.int .i64 x1,.int .i64 x2,.int .i64 d,.fn f i]:List DV))):=(tF B x1 x2 d f i j h4).2
def bW:SC:=(.seq (.sq [.v 31 10,.v 32 11,.k 33 .lss 31 32] (.cond (.t 33) .skip (.exit 0))) (.block 1 (.sq [.v 34 10,.v 35 11,.k 36 .add 34 35,.r 37 (.cvi .u64 (.t 36)),.r 38 (.bin .shr (.t 37) (.c (.d (.int .u64 1)))),.r 39 (.cvi .i64 (.t 38)),.v 12 39] (.seq (.regD [.v 40 4,.v 41 0,.v 42 12,.y 43 2 41 42,.r 44 (.ldA 2 (.t 43)),.v 45 0,.v 46 1,.y 47 2 45 46,.r 48 (.ldA 2 (.t 47)),.c 49 (.t 40) [.t 44,.t 48],.j 50 .lss 49 0]) (.cond (.t 50) (.reg [.v 51 12,.j 52 .add 51 1,.v 10 52]) (.reg [.v 53 12,.v 11 53]))))))
def c9:SC:= .block 0 (.loop bW)
def bX:SC:=(.seq (.sq [.v 55 13,.v 56 10,.j 57 .sub 56 1,.k 58 .lss 55 57] (.cond (.t 58) .skip (.exit 2))) (.seq (.block 3 (.regE [.v 61 0,.v 62 13,.v 63 0,.v 64 13,.j 65 .add 64 1,.v 66 0,.v 67 13,.j 68 .add 67 1,.y 69 2 66 68,.r 70 (.ldA 2 (.t 69)),.v 71 0,.v 72 13,.y 73 2 71 72,.r 74 (.ldA 2 (.t 73)),.y 75 2 61 62,.x 0 (.st 2 (.t 75) (.t 70)) [(2,63,.mv (.t 0)),(3,64,.mv (.t 13)),(4,65,.bin .add (.t 64) (.i 1))],.y 76 2 63 65,.x 0 (.st 2 (.t 76) (.t 74)) []])) (.reg [.v 59 13,.j 60 .add 59 1,.v 13 60])))
def c_:SC:= .block 2 (.loop bX)
def bY:SC:=(.seq (.sq [.v 83 14,.v 84 15,.k 85 .lss 83 84] (.cond (.t 85) .skip (.exit 4))) (.block 5 (.sq [.v 86 14,.v 87 15,.k 88 .add 86 87,.r 89 (.cvi .u64 (.t 88)),.r 90 (.bin .shr (.t 89) (.c (.d (.int .u64 1)))),.r 91 (.cvi .i64 (.t 90)),.v 16 91] (.seq (.regD [.v 92 4,.v 93 0,.v 94 2,.y 95 2 93 94,.r 96 (.ldA 2 (.t 95)),.v 97 0,.v 98 16,.y 99 2 97 98,.r 100 (.ldA 2 (.t 99)),.c 101 (.t 92) [.t 96,.t 100],.j 102 .lss 101 0,.r 103 (.not (.t 102))]) (.cond (.t 103) (.reg [.v 104 16,.j 105 .add 104 1,.v 14 105]) (.reg [.v 106 16,.v 15 106]))))))
def da:SC:= .block 4 (.loop bY)
def bZ:SC:=(.seq (.sq [.v 108 17,.v 109 14,.k 110 .gtr 108 109] (.cond (.t 110) .skip (.exit 6))) (.seq (.block 7 (.regE [.v 113 0,.v 114 17,.v 115 0,.v 116 17,.j 117 .sub 116 1,.v 118 0,.v 119 17,.j 120 .sub 119 1,.y 121 2 118 120,.r 122 (.ldA 2 (.t 121)),.v 123 0,.v 124 17,.y 125 2 123 124,.r 126 (.ldA 2 (.t 125)),.y 127 2 113 114,.x 0 (.st 2 (.t 127) (.t 122)) [(2,115,.mv (.t 0)),(3,116,.mv (.t 17)),(4,117,.bin .sub (.t 116) (.i 1))],.y 128 2 115 117,.x 0 (.st 2 (.t 128) (.t 126)) []])) (.reg [.v 111 17,.j 112 .sub 111 1,.v 17 112])))
def db:SC:= .block 6 (.loop bZ)
def b0:SC:=(.seq (.sq [.v 149 20,.v 150 21,.k 151 .lss 149 150] (.cond (.t 151) .skip (.exit 8))) (.block 9 (.sq [.v 152 20,.v 153 21,.k 154 .add 152 153,.r 155 (.cvi .u64 (.t 154)),.r 156 (.bin .shr (.t 155) (.c (.d (.int .u64 1)))),.r 157 (.cvi .i64 (.t 156)),.v 23 157] (.seq (.regD [.v 158 4,.v 159 0,.v 160 22,.v 161 23,.k 162 .sub 160 161,.y 163 2 159 162,.r 164 (.ldA 2 (.t 163)),.v 165 0,.v 166 23,.y 167 2 165 166,.r 168 (.ldA 2 (.t 167)),.c 169 (.t 158) [.t 164,.t 168],.j 170 .lss 169 0,.r 171 (.not (.t 170))]) (.cond (.t 171) (.reg [.v 172 23,.j 173 .add 172 1,.v 20 173]) (.reg [.v 174 23,.v 21 174]))))))
def dc:SC:= .block 8 (.loop b0)
def dN:SC:=(.seq (.sq [.v 25 2,.v 26 1,.k 27 .sub 25 26,.j 28 .eql 27 1] (.cond (.t 28) (.sq [.v 29 2,.v 10 29] (.sq [.v 30 3,.v 11 30] (.seq c9 (.seq (.sq [.v 54 1,.v 13 54] c_) .ret)))) .skip)) (.seq (.sq [.v 77 3,.v 78 2,.k 79 .sub 77 78,.j 80 .eql 79 1] (.cond (.t 80) (.sq [.v 81 1,.v 14 81] (.sq [.v 82 2,.v 15 82] (.seq da (.seq (.sq [.v 107 2,.v 17 107] db) .ret)))) .skip)) (.sq [.v 129 1,.v 130 3,.k 131 .add 129 130,.r 132 (.cvi .u64 (.t 131)),.r 133 (.bin .shr (.t 132) (.c (.d (.int .u64 1)))),.r 134 (.cvi .i64 (.t 133)),.v 18 134] (.sq [.v 135 18,.v 136 2,.k 137 .add 135 136,.v 19 137] (.sq [.r 20 (.mv (.i 0)),.r 21 (.mv (.i 0))] (.seq (.sq [.v 138 2,.v 139 18,.k 140 .gtr 138 139] (.cond (.t 140) (.sq [.v 141 19,.v 142 3,.k 143 .sub 141 142,.v 20 143] (.reg [.v 144 18,.v 21 144])) (.sq [.v 145 1,.v 20 145] (.reg [.v 146 2,.v 21 146])))) (.sq [.v 147 19,.j 148 .sub 147 1,.v 22 148] (.seq dc (.sq [.v 175 19,.v 176 20,.k 177 .sub 175 176,.v 24 177] (.seq (.seq (.reg (.v 178 20:: .v 179 2:: .k 180 .lss 178 179:: .v 181 180::bK [182,183,184] 181 true (.v 182 2:: .v 183 24:: .k 184 .lss 182 183::[]) (.r 185 (.pick (.t 181) (.t 184) (.b false))::[]))) (.cond (.t 185) (.reg [.v 186 0,.v 187 20,.v 188 2,.v 189 24,.v 190 4,.p (some 191) (.f 162) [.t 186,.t 187,.t 188,.t 189,.t 190]]) .skip)) (.seq (.seq (.reg (.v 192 1:: .v 193 20:: .k 194 .lss 192 193:: .v 195 194::bK [196,197,198] 195 true (.v 196 20:: .v 197 18:: .k 198 .lss 196 197::[]) (.r 199 (.pick (.t 195) (.t 198) (.b false))::[]))) (.cond (.t 199) (.reg [.v 200 0,.v 201 1,.v 202 20,.v 203 18,.v 204 4,.p (some 205) (.f 137) [.t 200,.t 201,.t 202,.t 203,.t 204]]) .skip)) (.seq (.reg (.v 206 18:: .v 207 24:: .k 208 .lss 206 207:: .v 209 208::bK [210,211,212] 209 true (.v 210 24:: .v 211 3:: .k 212 .lss 210 211::[]) (.r 213 (.pick (.t 209) (.t 212) (.b false))::[]))) (.cond (.t 213) (.reg [.v 214 0,.v 215 18,.v 216 24,.v 217 3,.v 218 4,.p (some 219) (.f 137) [.t 214,.t 215,.t 216,.t 217,.t 218]]) .skip)))))))))))))
theorem gT:fits Tryz.prog 137 Tryz.f137 dN [] 5=true:=oK
def tG:((∀ (B:List ah) (x1:Int) (x2:Int) (d:Int) (f:FuncId) (i:List DV) (j:ah->ah->Option (Int)) (h4:∀ a0 M r,j a0 M=some r->ac Tryz.prog f ([.agg (af a0),.agg (af M)]++i) (.int .i64 r)),{m:Option ((Unit)×(List ah))//∀ r,m=some r->bu Tryz.prog 137 (.own (.sl 69 (List.replicate 2 .sh)) (.slice (List.map af B))::(List.map SV.d ([.int .i64 x1,.int .i64 x2,.int .i64 d,.fn f i]:List DV))) (.tup []) (.own (.sl 69 (List.replicate 2 .sh)) (.slice (List.map af r.2))::(List.map SV.d ([.int .i64 x1,.int .i64 x2,.int .i64 d,.fn f i]:List DV)))}))->((∀ (B:List ah) (x1:Int) (x2:Int) (d:Int) (f:FuncId) (i:List DV) (j:ah->ah->Option (Int)) (h4:∀ a0 M r,j a0 M=some r->ac Tryz.prog f ([.agg (af a0),.agg (af M)]++i) (.int .i64 r)),{m:Option ((Unit)×(List ah))//∀ r,m=some r->bu Tryz.prog 137 (.own (.sl 69 (List.replicate 2 .sh)) (.slice (List.map af B))::(List.map SV.d ([.int .i64 x1,.int .i64 x2,.int .i64 d,.fn f i]:List DV))) (.tup []) (.own (.sl 69 (List.replicate 2 .sh)) (.slice (List.map af r.2))::(List.map SV.d ([.int .i64 x1,.int .i64 x2,.int .i64 d,.fn f i]:List DV)))})):=by
 intro ih
 have b7:∀ (B:List ah) (x1:Int) (x2:Int) (d:Int) (f:FuncId) (i:List DV) (j:ah->ah->Option (Int)) (h4:∀ a0 M r,j a0 M=some r->ac Tryz.prog f ([.agg (af a0),.agg (af M)]++i) (.int .i64 r)),∀ r,(ih B x1 x2 d f i j h4).1=some r->bu Tryz.prog 137 (.own (.sl 69 (List.replicate 2 .sh)) (.slice (List.map af B))::(List.map SV.d ([.int .i64 x1,.int .i64 x2,.int .i64 d,.fn f i]:List DV))) (.tup []) (.own (.sl 69 (List.replicate 2 .sh)) (.slice (List.map af r.2))::(List.map SV.d ([.int .i64 x1,.int .i64 x2,.int .i64 d,.fn f i]:List DV))):=fun B x1 x2 d f i j h4=>(ih B x1 x2 d f i j h4).2
 (intro B x1 x2 d f i j h4;apply Subtype.mk;intro r Z;apply js (N:=220) (k:=5) Tryz.func137 gT oK rfl (mU (H:=af) (n:=2) (fun _=>rfl) B) rfl oD;unfold dN)
 repeat'(first|with_reducible refine cC ?_|with_reducible refine cv ?_|with_reducible refine fl ?_|with_reducible refine jH ?_|with_reducible refine bn ?_|with_reducible refine b5 ?_|with_reducible refine d9 ?_|with_reducible refine cN ?_|with_reducible refine cw ?_|with_reducible refine cE ?_|with_reducible refine cO ?_|with_reducible refine dF ?_|with_reducible refine bD ?_|((with_reducible apply wt Z);(iterate 3 (simp only[push_cast,seval];rfl));intro e Z)|((with_reducible apply iC);(simp only[push_cast,seval];rfl);(first|exact trivial))|((with_reducible apply zz Z);(iterate 2 (simp only[push_cast,seval];rfl));(intro _;rfl);intro e Z)|((with_reducible apply Rd Z);(iterate 2 (simp only[push_cast,seval];rfl));intro Z)|((with_reducible apply nx Z);(simp only[push_cast,seval];rfl);rfl;intro v Z;rotate_left;intro v g Z)|((with_reducible apply FS Z);(iterate 2 (simp only[push_cast,seval];rfl));(focus(first|exact h4 _ _));intro x Z)|((with_reducible apply Hk Z);(iterate 3 (simp only[push_cast,seval];rfl));rfl;(intro _;rfl);rfl;(focus(intro a;simp only[push_cast,seval];rfl));(focus(intro a;(repeat'(first|rfl));done));(focus(intro _;(repeat'(first|exact bV|((with_reducible apply cn);(focus(simp only[push_cast,seval];rfl));(focus(first|exact trivial));(focus(simp only[push_cast,seval])))));done));intro e Z)|((with_reducible apply bv Z);(simp only[push_cast,seval];rfl);intro Z;rotate_left;intro Z)|((with_reducible apply fL Z);(simp only[push_cast,seval];rfl))|((with_reducible apply cp Z);intro r Z)|((apply aA (b:=0) (X:=c9) (x:=bW) rfl (fun(c:Ch×SV×SV×SV×SV×SV×SV) (s:Int×Int)=>st [(0,.vec 0),(1,c.2.1),(4,c.2.2.1),(10,.d (.int .i64 s.1)),(11,.d (.int .i64 s.2)),(220,.vec 0),(221,c.2.2.2.1),(222,c.2.2.2.2.1),(223,c.2.2.2.2.2.1),(224,c.2.2.2.2.2.2)] [(0,c.1)]) (c:=(_,_,_,_,_,_,_)) (s0:=(_,_)) Z);(focus(first|(dsimp only;done)));(with_reducible refine cS.mk ?_ ?_))|((apply aA (b:=2) (X:=c_) (x:=bX) rfl (fun(c:SV×SV×SV×SV×SV) (s:(List ah)×Int)=>st [(0,.vec 0),(10,c.1),(13,.d (.int .i64 s.2)),(220,.vec 0),(221,c.2.1),(222,c.2.2.1),(223,c.2.2.2.1),(224,c.2.2.2.2)] [(0,.vec 69 2 (aM af s.1))]) (c:=(_,_,_,_,_)) (s0:=(_,_)) Z);(focus(first|(dsimp only;done)));(with_reducible refine cS.mk ?_ ?_))|((apply aA (b:=4) (X:=da) (x:=bY) rfl (fun(c:Ch×SV×SV×SV×SV×SV×SV) (s:Int×Int)=>st [(0,.vec 0),(2,c.2.1),(4,c.2.2.1),(14,.d (.int .i64 s.1)),(15,.d (.int .i64 s.2)),(220,.vec 0),(221,c.2.2.2.1),(222,c.2.2.2.2.1),(223,c.2.2.2.2.2.1),(224,c.2.2.2.2.2.2)] [(0,c.1)]) (c:=(_,_,_,_,_,_,_)) (s0:=(_,_)) Z);(focus(first|(dsimp only;done)));(with_reducible refine cS.mk ?_ ?_))|((apply aA (b:=6) (X:=db) (x:=bZ) rfl (fun(c:SV×SV×SV×SV×SV) (s:(List ah)×Int)=>st [(0,.vec 0),(14,c.1),(17,.d (.int .i64 s.2)),(220,.vec 0),(221,c.2.1),(222,c.2.2.1),(223,c.2.2.2.1),(224,c.2.2.2.2)] [(0,.vec 69 2 (aM af s.1))]) (c:=(_,_,_,_,_)) (s0:=(_,_)) Z);(focus(first|(dsimp only;done)));(with_reducible refine cS.mk ?_ ?_))|((apply aA (b:=8) (X:=dc) (x:=b0) rfl (fun(c:Ch×SV×SV×SV×SV×SV×SV×SV×SV×SV×SV×SV) (s:Int×Int)=>st [(0,.vec 0),(1,c.2.1),(2,c.2.2.1),(3,c.2.2.2.1),(4,c.2.2.2.2.1),(18,c.2.2.2.2.2.1),(19,c.2.2.2.2.2.2.1),(20,.d (.int .i64 s.1)),(21,.d (.int .i64 s.2)),(22,c.2.2.2.2.2.2.2.1),(220,.vec 0),(221,c.2.2.2.2.2.2.2.2.1),(222,c.2.2.2.2.2.2.2.2.2.1),(223,c.2.2.2.2.2.2.2.2.2.2.1),(224,c.2.2.2.2.2.2.2.2.2.2.2)] [(0,c.1)]) (c:=(_,_,_,_,_,_,_,_,_,_,_,_)) (s0:=(_,_)) Z);(focus(first|(dsimp only;done)));(with_reducible refine cS.mk ?_ ?_))|((apply cr (s':=(_,_)) Z);(focus(first|(dsimp only;done))))|((apply ew (s':=(_,_)) Z);(focus(first|(dsimp only;done))))|(((with_reducible apply vm Z);(focus(simp only[push_cast,seval];(try rfl);done));(focus(simp only[push_cast,seval];(try rfl);done));(focus(simp only[push_cast,seval];(try rfl);done));(focus(intro _;rfl));(focus(first|apply hf _ _ _ _ _ _ _ h4));(any_goals(focus((repeat'(first|rfl));done)));(focus(intro _;exact⟨rfl,rfl⟩));intro y Z))|(((with_reducible apply vm Z);(focus(simp only[push_cast,seval];(try rfl);done));(focus(simp only[push_cast,seval];(try rfl);done));(focus(simp only[push_cast,seval];(try rfl);done));(focus(intro _;rfl));(focus(first|apply b7 _ _ _ _ _ _ _ h4));(any_goals(focus((repeat'(first|rfl));done)));(focus(intro _;exact⟨rfl,rfl⟩));intro y Z))|(((with_reducible apply Ly Z (a:=()));(focus(exact bm.refl _));(focus(simp only[push_cast,seval];(try rfl);done));(focus((repeat'(first|(with_reducible first|apply dt)));done));(focus(intro _;rfl));(focus(simp only[push_cast,seval];(try rfl);done));(focus(simp only[push_cast,seval];(try rfl);done));(focus(simp only[push_cast,seval];(try rfl);done));(focus(simp only[push_cast,seval];(try rfl);done));(focus(first|exact wx))))|(((with_reducible apply nQ Z (a:=()));(focus(exact bm.refl _));(focus(simp only[push_cast,seval];(try rfl);done));(focus((repeat'(first|(with_reducible first|apply dt)));done));(focus(intro _;rfl));(focus(simp only[push_cast,seval];(try rfl);done));(focus(simp only[push_cast,seval];(try rfl);done));(focus(simp only[push_cast,seval];(try rfl);done));(focus(simp only[push_cast,seval];(try rfl);done));(focus(first|exact wx))))|(((with_reducible apply fe.of);(focus(first|(dsimp only;done)));(focus((intro _;repeat'(first|with_reducible exact ga|with_reducible refine b_ ?_))));(intro s o Z;first|unfold bW|unfold bX|unfold bY|unfold bZ|unfold b0);rotate_left;intro s Z))|(((apply bH;(repeat'(first|with_reducible exact aR|with_reducible exact aS|with_reducible apply aK|with_reducible apply be|((with_reducible apply aV);(focus(first|(simp only[push_cast,seval];rfl)));(focus((repeat'(first|rfl));done)))|((with_reducible apply cZ);(focus(first|(simp only[push_cast,seval];rfl)));(first|with_reducible exact aN rfl))));done))))
def pd (fu:Nat):(∀ (B:List ah) (x1:Int) (x2:Int) (d:Int) (f:FuncId) (i:List DV) (j:ah->ah->Option (Int)) (h4:∀ a0 M r,j a0 M=some r->ac Tryz.prog f ([.agg (af a0),.agg (af M)]++i) (.int .i64 r)),{m:Option ((Unit)×(List ah))//∀ r,m=some r->bu Tryz.prog 137 (.own (.sl 69 (List.replicate 2 .sh)) (.slice (List.map af B))::(List.map SV.d ([.int .i64 x1,.int .i64 x2,.int .i64 d,.fn f i]:List DV))) (.tup []) (.own (.sl 69 (List.replicate 2 .sh)) (.slice (List.map af r.2))::(List.map SV.d ([.int .i64 x1,.int .i64 x2,.int .i64 d,.fn f i]:List DV)))}):=Nat.rec (fun B x1 x2 d f i j h4=>⟨none,fun r h=>by cases h⟩) (fun _ ih=>tG ih) fu
def a1 (fu:Nat) (B:List ah) (x1 x2 d:Int) (f:FuncId) (i:List DV) (j:ah->ah->Option (Int)) (h4:∀ a0 M r,j a0 M=some r->ac Tryz.prog f ([.agg (af a0),.agg (af M)]++i) (.int .i64 r)):Option ((Unit)×(List ah)):=((pd fu) B x1 x2 d f i j h4).1
theorem gu (B:List ah) (x1 x2 d:Int) (f:FuncId) (i:List DV) (j:ah->ah->Option (Int)) (h4:∀ a0 M r,j a0 M=some r->ac Tryz.prog f ([.agg (af a0),.agg (af M)]++i) (.int .i64 r)):a1 0 B x1 x2 d f i j h4=none:=rfl
theorem gv (fu:Nat) (B:List ah) (x1 x2 d:Int) (f:FuncId) (i:List DV) (j:ah->ah->Option (Int)) (h4:∀ a0 M r,j a0 M=some r->ac Tryz.prog f ([.agg (af a0),.agg (af M)]++i) (.int .i64 r)):((pd fu) B x1 x2 d f i j h4).1=a1 fu B x1 x2 d f i j h4:=rfl
theorem gx (fu:Nat) (B:List ah) (x1 x2 d:Int) (f:FuncId) (i:List DV) (j:ah->ah->Option (Int)) (h4:∀ a0 M r,j a0 M=some r->ac Tryz.prog f ([.agg (af a0),.agg (af M)]++i) (.int .i64 r)):a1 (fu+1) B x1 x2 d f i j h4=((tG (pd fu)) B x1 x2 d f i j h4).1:=rfl
theorem b7 (fu:Nat) (B:List ah) (x1 x2 d:Int) (f:FuncId) (i:List DV) (j:ah->ah->Option (Int)) (h4:∀ a0 M r,j a0 M=some r->ac Tryz.prog f ([.agg (af a0),.agg (af M)]++i) (.int .i64 r)):∀ r,a1 fu B x1 x2 d f i j h4=some r->bu Tryz.prog 137 (.own (.sl 69 (List.replicate 2 .sh)) (.slice (List.map af B))::(List.map SV.d ([.int .i64 x1,.int .i64 x2,.int .i64 d,.fn f i]:List DV))) (.tup []) (.own (.sl 69 (List.replicate 2 .sh)) (.slice (List.map af r.2))::(List.map SV.d ([.int .i64 x1,.int .i64 x2,.int .i64 d,.fn f i]:List DV))):=((pd fu) B x1 x2 d f i j h4).2
def cc:SC:=(.seq (.sq [.v 11 8,.v 12 1,.k 13 .leq 11 12] (.cond (.t 13) .skip (.exit 0))) (.block 1 (.sq [.v 14 0,.v 15 7,.v 16 8,.v 17 2,.p (some 18) (.f 136) [.t 14,.t 15,.t 16,.t 17]] (.sq [.v 19 8,.v 7 19] (.reg [.v 20 8,.v 21 6,.k 22 .add 20 21,.v 8 22])))))
def dA:SC:= .block 0 (.loop cc)
def cd:SC:=(.seq (.sq [.v 33 8,.v 34 1,.k 35 .leq 33 34] (.cond (.t 35) .skip (.exit 4))) (.block 5 (.sq [.v 36 0,.v 37 7,.v 38 7,.v 39 6,.k 40 .add 38 39,.v 41 8,.v 42 2,.p (some 43) (.f 137) [.t 36,.t 37,.t 40,.t 41,.t 42]] (.sq [.v 44 8,.v 7 44] (.reg [.v 45 8,.v 46 6,.r 47 (.bin .mul (.i 2) (.t 46)),.k 48 .add 45 47,.v 8 48])))))
def dB:SC:= .block 4 (.loop cd)
def ce:SC:=(.seq (.sq [.v 28 6,.v 29 1,.k 30 .lss 28 29] (.cond (.t 30) .skip (.exit 2))) (.block 3 (.sq [.v 31 6,.r 32 (.bin .mul (.i 2) (.t 31)),.r 7 (.mv (.i 0)),.v 8 32] (.seq dB (.seq (.sq [.v 49 7,.v 50 6,.k 51 .add 49 50,.v 9 51] (.sq [.v 52 9,.v 53 1,.k 54 .lss 52 53] (.cond (.t 54) (.reg [.v 55 0,.v 56 7,.v 57 9,.v 58 1,.v 59 2,.p (some 60) (.f 137) [.t 55,.t 56,.t 57,.t 58,.t 59]]) .skip))) (.reg [.v 61 6,.j 62 .mul 61 2,.v 6 62]))))))
def dC:SC:= .block 2 (.loop ce)
def eg:SC:=(.sq [.r 6 (.mv (.i 20))] (.sq [.v 10 6,.r 7 (.mv (.i 0)),.v 8 10] (.seq dA (.sq [.v 23 0,.v 24 7,.v 25 1,.v 26 2,.p (some 27) (.f 136) [.t 23,.t 24,.t 25,.t 26]] dC))))
theorem hN:fits Tryz.prog 96 Tryz.f96 eg [] 3=true:=oK
def tH:(∀ (B:List ah) (x1:Int) (C:FuncId) (c2:List DV) (f:ah->ah->Option (Int)) (h2:∀ a0 M r,f a0 M=some r->ac Tryz.prog C ([.agg (af a0),.agg (af M)]++c2) (.int .i64 r)),{m:Option ((Unit)×(List ah))//∀ r,m=some r->bu Tryz.prog 96 (.own (.sl 69 (List.replicate 2 .sh)) (.slice (List.map af B))::(List.map SV.d ([.int .i64 x1,.fn C c2]:List DV))) (.tup []) (.own (.sl 69 (List.replicate 2 .sh)) (.slice (List.map af r.2))::(List.map SV.d ([.int .i64 x1,.fn C c2]:List DV)))}):=by
 (intro B x1 C c2 f h2;apply Subtype.mk;intro r Z;apply js (N:=63) (k:=3) Tryz.func96 hN oK rfl (mU (H:=af) (n:=2) (fun _=>rfl) B) rfl oD;unfold eg)
 repeat'(first|with_reducible refine cC ?_|with_reducible refine cv ?_|with_reducible refine bn ?_|with_reducible refine b5 ?_|with_reducible refine cN ?_|with_reducible refine cw ?_|with_reducible refine cE ?_|with_reducible refine cO ?_|with_reducible refine bD ?_|((with_reducible apply iC);(simp only[push_cast,seval];rfl);(first|exact trivial))|((with_reducible apply bv Z);(simp only[push_cast,seval];rfl);intro Z;rotate_left;intro Z)|((with_reducible apply cp Z);intro r Z)|((apply aA (b:=0) (X:=dA) (x:=cc) rfl (fun(c:SV×SV×SV×SV×SV) (s:(List ah)×Int×Int)=>st [(0,.vec 0),(1,c.1),(2,c.2.1),(6,c.2.2.1),(7,.d (.int .i64 s.2.1)),(8,.d (.int .i64 s.2.2)),(63,.vec 0),(64,c.2.2.2.1),(65,c.2.2.2.2)] [(0,.vec 69 2 (aM af s.1))]) (c:=(_,_,_,_,_)) (s0:=(_,_,_)) Z);(focus(first|(dsimp only;done)));(with_reducible refine cS.mk ?_ ?_))|((apply aA (b:=4) (X:=dB) (x:=cd) rfl (fun(c:SV×SV×SV×SV×SV) (s:(List ah)×Int×Int)=>st [(0,.vec 0),(1,c.1),(2,c.2.1),(6,c.2.2.1),(7,.d (.int .i64 s.2.1)),(8,.d (.int .i64 s.2.2)),(63,.vec 0),(64,c.2.2.2.1),(65,c.2.2.2.2)] [(0,.vec 69 2 (aM af s.1))]) (c:=(_,_,_,_,_)) (s0:=(_,_,_)) Z);(focus(first|(dsimp only;done)));(with_reducible refine cS.mk ?_ ?_))|((apply aA (b:=2) (X:=dC) (x:=ce) rfl (fun(c:SV×SV×SV×SV) (s:(List ah)×Int)=>st [(0,.vec 0),(1,c.1),(2,c.2.1),(6,.d (.int .i64 s.2)),(63,.vec 0),(64,c.2.2.1),(65,c.2.2.2)] [(0,.vec 69 2 (aM af s.1))]) (c:=(_,_,_,_)) (s0:=(_,_)) Z);(focus(first|(dsimp only;done)));(with_reducible refine cS.mk ?_ ?_))|((apply cr (s':=(_,_,_)) Z);(focus(first|(dsimp only;done))))|((apply ew (s':=(_,_,_)) Z);(focus(first|(dsimp only;done))))|((apply cr (s':=(_,_)) Z);(focus(first|(dsimp only;done))))|((apply ew (s':=(_,_)) Z);(focus(first|(dsimp only;done))))|(((with_reducible apply vm Z);(focus(simp only[push_cast,seval];(try rfl);done));(focus(simp only[push_cast,seval];(try rfl);done));(focus(simp only[push_cast,seval];(try rfl);done));(focus(intro _;rfl));(focus(first|apply fS _ _ _ _ _ _ h2));(any_goals(focus((repeat'(first|rfl));done)));(focus(intro _;exact⟨rfl,rfl⟩));intro y Z))|(((with_reducible apply vm Z);(focus(simp only[push_cast,seval];(try rfl);done));(focus(simp only[push_cast,seval];(try rfl);done));(focus(simp only[push_cast,seval];(try rfl);done));(focus(intro _;rfl));(focus(first|apply b7 FU _ _ _ _ _ _ _ h2));(any_goals(focus((repeat'(first|rfl));done)));(focus(intro _;exact⟨rfl,rfl⟩));intro y Z))|(((with_reducible apply nQ Z (a:=()));(focus(exact bm.refl _));(focus(simp only[push_cast,seval];(try rfl);done));(focus((repeat'(first|(with_reducible first|apply dt)));done));(focus(intro _;rfl));(focus(simp only[push_cast,seval];(try rfl);done));(focus(simp only[push_cast,seval];(try rfl);done));(focus(simp only[push_cast,seval];(try rfl);done));(focus(simp only[push_cast,seval];(try rfl);done));(focus(first|exact wx))))|(((with_reducible apply fe.of);(focus(first|(dsimp only;done)));(focus((intro _;repeat'(first|with_reducible exact ga|with_reducible refine b_ ?_|with_reducible refine gj ?_|((with_reducible refine ja ?_);intro _)|((with_reducible refine jb ?_);intro _)))));(intro s o Z;first|unfold cc|unfold cd|unfold ce);rotate_left;intro s Z))|(((apply bH;(repeat'(first|with_reducible exact aR|with_reducible exact aS|with_reducible apply aK|with_reducible apply be|((with_reducible apply aV);(focus(first|(simp only[push_cast,seval];rfl)));(focus((repeat'(first|rfl));done)))|((with_reducible apply cZ);(focus(first|(simp only[push_cast,seval];rfl)));(first|with_reducible exact aN rfl))));done))))
def cu (B:List ah) (x1:Int) (C:FuncId) (c2:List DV) (f:ah->ah->Option (Int)) (h2:∀ a0 M r,f a0 M=some r->ac Tryz.prog C ([.agg (af a0),.agg (af M)]++c2) (.int .i64 r)):Option ((Unit)×(List ah)):=(tH B x1 C c2 f h2).1
theorem hm (B:List ah) (x1:Int) (C:FuncId) (c2:List DV) (f:ah->ah->Option (Int)) (h2:∀ a0 M r,f a0 M=some r->ac Tryz.prog C ([.agg (af a0),.agg (af M)]++c2) (.int .i64 r)):∀ r,cu B x1 C c2 f h2=some r->bu Tryz.prog 96 (.own (.sl 69 (List.replicate 2 .sh)) (.slice (List.map af B))::(List.map SV.d ([.int .i64 x1,.fn C c2]:List DV))) (.tup []) (.own (.sl 69 (List.replicate 2 .sh)) (.slice (List.map af r.2))::(List.map SV.d ([.int .i64 x1,.fn C c2]:List DV))):=(tH B x1 C c2 f h2).2
def bS:SC:=(.reg [.v 4 0,.v 5 0,.h 6 5,.v 7 1,.p (some 8) (.f 96) [.t 4,.t 6,.t 7]])
theorem dS:fits Tryz.prog 55 Tryz.f55 bS [] 2=true:=oK
def tI:(∀ (B:List ah) (A:FuncId) (T:List DV) (d:ah->ah->Option (Int)) (h1:∀ a0 M r,d a0 M=some r->ac Tryz.prog A ([.agg (af a0),.agg (af M)]++T) (.int .i64 r)),{m:Option ((Unit)×(List ah))//∀ r,m=some r->bu Tryz.prog 55 (.own (.sl 69 (List.replicate 2 .sh)) (.slice (List.map af B))::(List.map SV.d ([.fn A T]:List DV))) (.tup []) (.own (.sl 69 (List.replicate 2 .sh)) (.slice (List.map af r.2))::(List.map SV.d ([.fn A T]:List DV)))}):=by
 (intro B A T d h1;apply Subtype.mk;intro r Z;apply js (N:=9) (k:=2) Tryz.func55 dS oK rfl (mU (H:=af) (n:=2) (fun _=>rfl) B) rfl oD;unfold bS)
 repeat'(first|with_reducible refine cv ?_|with_reducible refine cw ?_|((with_reducible apply iC);(simp only[push_cast,seval];rfl);(first|exact trivial))|(((with_reducible apply vm Z);(focus(simp only[push_cast,seval];(try rfl);done));(focus(simp only[push_cast,seval];(try rfl);done));(focus(simp only[push_cast,seval];(try rfl);done));(focus(intro _;rfl));(focus(first|apply hm _ _ _ _ _ h1));(any_goals(focus((repeat'(first|rfl));done)));(focus(intro _;exact⟨rfl,rfl⟩));intro y Z))|(((with_reducible apply nQ Z (a:=()));(focus(exact bm.refl _));(focus(simp only[push_cast,seval];(try rfl);done));(focus((repeat'(first|(with_reducible first|apply dt)));done));(focus(intro _;rfl));(focus(simp only[push_cast,seval];(try rfl);done));(focus(simp only[push_cast,seval];(try rfl);done));(focus(simp only[push_cast,seval];(try rfl);done));(focus(simp only[push_cast,seval];(try rfl);done));(focus(first|exact wx)))))
def ba (B:List ah) (A:FuncId) (T:List DV) (d:ah->ah->Option (Int)) (h1:∀ a0 M r,d a0 M=some r->ac Tryz.prog A ([.agg (af a0),.agg (af M)]++T) (.int .i64 r)):Option ((Unit)×(List ah)):=(tI B A T d h1).1
theorem dO (B:List ah) (A:FuncId) (T:List DV) (d:ah->ah->Option (Int)) (h1:∀ a0 M r,d a0 M=some r->ac Tryz.prog A ([.agg (af a0),.agg (af M)]++T) (.int .i64 r)):∀ r,ba B A T d h1=some r->bu Tryz.prog 55 (.own (.sl 69 (List.replicate 2 .sh)) (.slice (List.map af B))::(List.map SV.d ([.fn A T]:List DV))) (.tup []) (.own (.sl 69 (List.replicate 2 .sh)) (.slice (List.map af r.2))::(List.map SV.d ([.fn A T]:List DV))):=(tI B A T d h1).2
end
noncomputable section
set_option maxRecDepth 100000
set_option maxHeartbeats 40000000
structure ju where
 fElement:Int
 fRepeat:Int
 fPart:Int
 deriving DecidableEq
variable {b v0 v2:Int}
def ix (x:ju):List DV:=[.int .i64 x.fElement,.int .i64 x.fRepeat,.int .i64 x.fPart]
attribute [push_cast] ix
theorem Ey {d0 H d2:DV} (h0:d0= .int .i64 v0) (h1:H= .int .i64 b) (h2:d2= .int .i64 v2):[d0,H,d2]=ix ⟨v0,b,v2⟩:=by unfold ix;simp only[h0,h1,h2,Td,S8,S6,Tg]
theorem Ez {d0 H d2:SV} (h0:fV d0 (.d (.int .i64 v0))) (h1:fV H (.d (.int .i64 b))) (h2:fV d2 (.d (.int .i64 v2))):ag [d0,H,d2] (dR (ix ⟨v0,b,v2⟩)):=by have h:=(ag.append (ag.consS h0 ag.nil) (ag.append (ag.consS h1 ag.nil) (ag.consS h2 ag.nil)));simpa only[ix,dR,TY,Tc,Ug,Td,S8,S6,Tg] using h
def mO:SC:=(.sq [.k 11 .lss 10 9] (.seq (.cond (.t 11) .skip (.exit 0)) (.seq (.block 1 (.sq [.y 12 1 8 10,.a 13 1 12,.w 6 (.boxM (.c (.agg [.nils]))),.s 1 6 13] (.seq (.seq (.reg (.f 14 0 6:: .l 15 14:: .h 16 15:: .j 17 .neq 16 1:: .v 18 17::bK [19,20,21,22,23,24] 18 false (.f 19 0 6:: .r 20 (.ld1 (.t 19)):: .r 21 (.idx 1 (.t 20) (.i 0)):: .r 22 (.ld1 (.t 21)):: .h 23 22:: .j 24 .neq 23 1::[]) (.r 25 (.pick (.t 18) (.b true) (.t 24))::[]))) (.cond (.t 25) (.sq [.r 2 (.mv (.c (.nils))),.r 3 (.mv (.b false))] .ret) .skip)) (.reg [.v 26 4,.f 27 0 6,.l 28 27,.r 29 (.idx 1 (.t 28) (.i 0)),.l 30 29,.r 31 (.idx 1 (.t 30) (.i 0)),.l 32 31,.r 33 (.bslice 1 [.t 32]),.w 34 (.app 9 1 (.t 26) (.t 33)),.v 4 34])))) (.reg [.j 35 .add 10 1,.v 10 35]))))
def p7:SC:= .block 0 (.loop mO)
def uG:SC:=(.sq [.r 1 (.boxI (.t 0)),.r 2 (.mv (.c (.nils))),.r 3 (.mv (.b false))] (.sq [.r 4 (.mv (.c (.nils)))] (.seq (.sq [.f 7 1 1,.l 8 7,.h 9 8,.r 10 (.mv (.i 0))] p7) (.sq [.v 36 4,.v 2 36,.r 3 (.mv (.b true))] .ret))))
theorem Bh:fits Tryz.prog 58 Tryz.f58 uG [.t 2,.t 3] 1=true:=oK
def wH:SC:=(.sq [.r 2 (.mv (.b false))] (.seq (.reg (.v 3 0:: .r 4 (.lenT (.t 3)):: .j 5 .geq 4 1:: .v 6 5::bK [7,8,9] 6 true (.v 7 0:: .r 8 (.lenT (.t 7)):: .j 9 .leq 8 14::[]) (.r 10 (.pick (.t 6) (.t 9) (.b false)):: .v 11 10::bK [12,13,14] 11 true (.v 12 0:: .c 13 (.f 81) [.t 12,.c (.d (.str [65,66,67,68,69,70,71,72,73,74,75,76,77,78,79,80,81,82,83,84,85,86,87,88,89,90,48,49,50,51,52,53,54,55,56,57,45]))]:: .r 14 (.bin .eql (.t 13) (.c (.d (.str []))))::[]) (.r 15 (.pick (.t 11) (.t 14) (.b false)):: .v 2 15::[])))) .ret))
theorem Ck:fits Tryz.prog 36 Tryz.f36 wH [.t 2] 1=true:=oK
def uH:SC:=(.sq [.r 2 (.mv (.b false))] (.seq (.seq (.reg (.v 3 0:: .r 4 (.lenT (.t 3)):: .j 5 .lss 4 1:: .v 6 5::bK [7,8,9] 6 false (.v 7 0:: .r 8 (.lenT (.t 7)):: .j 9 .gtr 8 40::[]) (.r 10 (.pick (.t 6) (.b true) (.t 9)):: .v 11 10::bK [12,13,14] 11 false (.v 12 0:: .r 13 (.sidx (.t 12) (.i 0)):: .r 14 (.bin .lss (.t 13) (.c (.d (.int .u8 97))))::[]) (.r 15 (.pick (.t 11) (.b true) (.t 14)):: .v 16 15::bK [17,18,19] 16 false (.v 17 0:: .r 18 (.sidx (.t 17) (.i 0)):: .r 19 (.bin .gtr (.t 18) (.c (.d (.int .u8 122))))::[]) (.r 20 (.pick (.t 16) (.b true) (.t 19))::[]))))) (.cond (.t 20) (.sq [.r 2 (.mv (.b false))] .ret) .skip)) (.sq [.v 21 0,.c 22 (.f 81) [.t 21,.c (.d (.str [97,98,99,100,101,102,103,104,105,106,107,108,109,110,111,112,113,114,115,116,117,118,119,120,121,122,48,49,50,51,52,53,54,55,56,57,45]))],.r 23 (.bin .eql (.t 22) (.c (.d (.str [])))),.v 2 23] .ret)))
theorem Bi:fits Tryz.prog 37 Tryz.f37 uH [.t 2] 1=true:=oK
def rL:SC:=(.sq [.r 2 (.mv (.b false))] (.seq (.reg (.v 3 0:: .r 4 (.bin .neq (.t 3) (.c (.d (.str [])))):: .v 5 4::bK [6,7] 5 true (.v 6 0:: .c 7 (.f 129) [.t 6,.c (.d (.int .u8 48)),.c (.d (.int .u8 57))]::[]) (.r 8 (.pick (.t 5) (.t 7) (.b false)):: .v 2 8::[]))) .ret))
theorem xS:fits Tryz.prog 135 Tryz.f135 rL [.t 2] 1=true:=oK
def tj:SC:=(.sq [.r 6 (.mv (.b false))] (.seq (.reg (.v 7 0:: .v 8 1:: .k 9 .lss 7 8:: .v 10 9::bK [11,12,13] 10 false (.v 11 0:: .v 12 2:: .k 13 .gtr 11 12::[]) (.r 14 (.pick (.t 10) (.b true) (.t 13)):: .v 6 14::[]))) .ret))
theorem zb:fits Tryz.prog 39 Tryz.f39 tj [.t 6] 3=true:=oK
def tk:SC:=(.sq [.r 2 (.boxI (.t 0)),.r 3 (.boxI (.t 1)),.r 4 (.mv (.c (.d (.str [])))),.r 5 (.mv (.b false))] (.seq (.sq [.f 7 0 3,.l 8 7,.f 9 1 2,.l 10 9,.h 11 10,.k 12 .gtr 8 11] (.cond (.t 12) (.sq [.r 4 (.mv (.c (.d (.str [])))),.r 5 (.mv (.b false))] .ret) .skip)) (.sq [.f 13 1 2,.l 14 13,.f 15 0 3,.l 16 15,.j 17 .sub 16 1,.y 18 1 14 17,.f 19 0 18,.l 20 19,.v 6 20] (.seq (.seq (.regD (.f 21 1 3:: .r 22 (.ld1 (.t 21)):: .v 23 6:: .h 24 23:: .k 25 .gtr 22 24:: .v 26 25::bK [27,28,29,30,31,32,33,34,35,36] 26 false (.f 27 2 3:: .r 28 (.ld1 (.t 27)):: .v 29 6:: .f 30 1 3:: .r 31 (.ld1 (.t 30)):: .j 32 .sub 31 1:: .y 33 1 29 32:: .r 34 (.ld1 (.t 33)):: .h 35 34:: .k 36 .gtr 28 35::[]) (.r 37 (.pick (.t 26) (.b true) (.t 36))::[]))) (.cond (.t 37) (.sq [.r 4 (.mv (.c (.d (.str [])))),.r 5 (.mv (.b false))] .ret) .skip)) (.seq (.regD [.v 38 6,.f 39 1 3,.r 40 (.ld1 (.t 39)),.j 41 .sub 40 1,.y 42 1 38 41,.r 43 (.ld1 (.t 42)),.f 44 2 3,.r 45 (.ld1 (.t 44)),.j 46 .sub 45 1,.y 47 1 43 46,.r 48 (.ld1 (.t 47)),.v 4 48,.r 5 (.mv (.b true))]) .ret)))))
theorem zc:fits Tryz.prog 134 Tryz.f134 tk [.t 4,.t 5] 2=true:=oK
def uI:SC:=(.sq [.r 0 (.mv (.c (.nils)))] (.sq [.r 1 (.bslice 1 [.c (.d (.str [73,72,68])),.c (.d (.str [71,72,68])),.c (.d (.str [77,72,68]))]),.v 0 1] .ret))
theorem Bj:fits Tryz.prog 49 Tryz.f49 uI [.t 0] 0=true:=oK
def uJ:SC:=(.sq [.r 0 (.mv (.c (.nils)))] (.sq [.r 1 (.bslice 1 [.c (.d (.str [73,84,82])),.c (.d (.str [71,84,82])),.c (.d (.str [77,84,82]))]),.v 0 1] .ret))
theorem Bk:fits Tryz.prog 51 Tryz.f51 uJ [.t 0] 0=true:=oK
def aZ:(∀ (B:aa),{m:Option ((List (List UInt8))×Bool)//∀ r,m=some r->ac Tryz.prog 58 [.agg (ae B)] (.tup [.slice (List.map cX r.1),.bool r.2])})×(∀ (B:List UInt8),{m:Option (Bool)//∀ r,m=some r->ac Tryz.prog 36 [.str B] (.bool r)})×(∀ (B:List UInt8),{m:Option (Bool)//∀ r,m=some r->ac Tryz.prog 37 [.str B] (.bool r)})×(∀ (B:List UInt8),{m:Option (Bool)//∀ r,m=some r->ac Tryz.prog 135 [.str B] (.bool r)})×(∀ (B:Int) (x1:Int) (x2:Int),{m:Option (Bool)//∀ r,m=some r->ac Tryz.prog 39 [.int .i64 B,.int .i64 x1,.int .i64 x2] (.bool r)})×(∀ (B:aa) (x1:ju),{m:Option ((List UInt8)×Bool)//∀ r,m=some r->ac Tryz.prog 134 [.agg (ae B),.agg (ix x1)] (.tup [.str r.1,.bool r.2])})×({m:Option ((List (List UInt8)))//∀ r,m=some r->ac Tryz.prog 49 [] (.slice (List.map cX r))})×({m:Option ((List (List UInt8)))//∀ r,m=some r->ac Tryz.prog 51 [] (.slice (List.map cX r))}):=by
 refine⟨?g0, ?g1, ?g2, ?g3, ?g4, ?g5, ?g6, ?g7⟩
 case' g0=>(intro B;apply Subtype.mk;intro r Z;apply av Tryz.func58 Bh;unfold uG)
 case' g1=>(intro B;apply Subtype.mk;intro r Z;apply av Tryz.func36 Ck;unfold wH)
 case' g2=>(intro B;apply Subtype.mk;intro r Z;apply av Tryz.func37 Bi;unfold uH)
 case' g3=>(intro B;apply Subtype.mk;intro r Z;apply av Tryz.func135 xS;unfold rL)
 case' g4=>(intro B x1 x2;apply Subtype.mk;intro r Z;apply av Tryz.func39 zb;unfold tj)
 case' g5=>(intro B x1;apply Subtype.mk;intro r Z;apply av Tryz.func134 zc;unfold tk)
 case' g6=>(apply Subtype.mk;intro r Z;apply av Tryz.func49 Bj;unfold uI)
 case' g7=>(apply Subtype.mk;intro r Z;apply av Tryz.func51 Bk;unfold uJ)
 all_goals(repeat'(first|with_reducible refine cC ?_|with_reducible refine cv ?_|with_reducible refine fl ?_|with_reducible refine bn ?_|with_reducible refine b5 ?_|with_reducible refine d9 ?_|with_reducible refine cN ?_|with_reducible refine cw ?_|with_reducible refine cE ?_|with_reducible refine cO ?_|with_reducible refine dF ?_|with_reducible refine bD ?_|with_reducible refine cR ?_|with_reducible refine dT ?_|((with_reducible apply fp Z);(iterate 2 (simp only[push_cast,seval];rfl));(intro _;rfl);intro e Z)|((with_reducible apply rj Z);(iterate 2 (simp only[push_cast,seval];rfl));intro e Z)|((with_reducible apply iC);(simp only[push_cast,seval];rfl);(first|exact trivial))|((with_reducible apply nx Z);(simp only[push_cast,seval];rfl);rfl;intro v Z;rotate_left;intro v g Z)|((with_reducible apply rZ Z);(simp only[push_cast,seval];rfl);rfl;intro v Z;rotate_left;intro v g Z)|((with_reducible apply j0 Z);(simp only[push_cast,seval];rfl);(first|apply pf _ _|apply p3 _ _ _);(any_goals((repeat'(first|rfl|(with_reducible first|apply lI)|(with_reducible apply rk;decide)));done));intro x Z)|((with_reducible apply uB);(simp only[push_cast,seval];rfl);(first|exact trivial))|((with_reducible apply sP Z);(iterate 4 (simp only[push_cast,seval];rfl));(focus((repeat'(first|rfl|(with_reducible first|apply eb|apply ec|apply e7)));done));decide;(intro _;rfl);intro Z)|((with_reducible apply bv Z);(simp only[push_cast,seval];rfl);intro Z;rotate_left;intro Z)|((with_reducible apply AY Z);(focus(simp only[dE,im,RV.get,push_cast,seval];rfl));(focus(first|(dsimp only;done)));(focus((repeat'(first|rfl|(with_reducible first|apply Db|apply eb|apply lI|apply ec)));done)))|((with_reducible apply eS Z);(focus(simp only[dE,im,RV.get,push_cast,seval];rfl));(focus((repeat'(first|rfl|(with_reducible first|apply eb|apply ec|apply e7)));done)))|((with_reducible apply fL Z);(simp only[push_cast,seval];rfl))|((with_reducible apply cp Z);intro r Z)|((with_reducible apply eu Z);intro r Z)|((apply aA (b:=0) (X:=p7) (x:=mO) rfl (fun(c:SV×SV) (s:(List (List UInt8))×Int)=>st [(4,.vec 4),(8,c.1),(9,c.2),(10,.d (.int .i64 s.2))] [(4,.vec 9 1 (aM cX s.1))]) (c:=(_,_)) (s0:=(_,_)) Z);(focus(first|(dsimp only;done)));(with_reducible refine cS.mk ?_ ?_);apply bm.trans;(focus(apply An (d:=4) (id:=4) (e:=9) (sz:=1);(focus(simp only[push_cast,seval];done)))))|((apply cr (s':=(_,_)) Z);(focus(first|(dsimp only;done))))|((apply ew (s':=(_,_)) Z);(focus(first|(dsimp only;done))))|(((with_reducible apply iv Z);intro r Z))|(((with_reducible apply fe.of);(focus(first|(dsimp only;done)));(focus((intro _;repeat'(first|with_reducible exact ea|with_reducible refine b_ ?_))));(intro s o Z;first|unfold mO);rotate_left;intro s Z))|(((apply bH;(repeat'(first|with_reducible exact aR|with_reducible exact aS|with_reducible apply aK|with_reducible apply be|((with_reducible apply aV);(focus(first|(simp only[push_cast,seval];rfl)));(focus((repeat'(first|rfl));done)))|((with_reducible apply cZ);(focus(first|(simp only[push_cast,seval];rfl)));(first|with_reducible exact aN rfl|with_reducible apply dG))|(with_reducible first|apply uE)));done)))))
def jv (B:aa):Option ((List (List UInt8))×Bool):=(aZ.1 B).1
theorem kg (B:aa):∀ r,jv B=some r->ac Tryz.prog 58 [.agg (ae B)] (.tup [.slice (List.map cX r.1),.bool r.2]):=(aZ.1 B).2
def tl (B:List UInt8):Option (Bool):=(aZ.2.1 B).1
theorem ik (B:List UInt8):∀ r,tl B=some r->ac Tryz.prog 36 [.str B] (.bool r):=(aZ.2.1 B).2
def rv (B:List UInt8):Option (Bool):=(aZ.2.2.1 B).1
theorem kh (B:List UInt8):∀ r,rv B=some r->ac Tryz.prog 37 [.str B] (.bool r):=(aZ.2.2.1 B).2
def jh (B:List UInt8):Option (Bool):=(aZ.2.2.2.1 B).1
theorem pb (B:List UInt8):∀ r,jh B=some r->ac Tryz.prog 135 [.str B] (.bool r):=(aZ.2.2.2.1 B).2
def j9 (B x1 x2:Int):Option (Bool):=(aZ.2.2.2.2.1 B x1 x2).1
theorem mP (B x1 x2:Int):∀ r,j9 B x1 x2=some r->ac Tryz.prog 39 [.int .i64 B,.int .i64 x1,.int .i64 x2] (.bool r):=(aZ.2.2.2.2.1 B x1 x2).2
def uK (B:aa) (x1:ju):Option ((List UInt8)×Bool):=(aZ.2.2.2.2.2.1 B x1).1
theorem xT (B:aa) (x1:ju):∀ r,uK B x1=some r->ac Tryz.prog 134 [.agg (ae B),.agg (ix x1)] (.tup [.str r.1,.bool r.2]):=(aZ.2.2.2.2.2.1 B x1).2
def lX:Option ((List (List UInt8))):=(aZ.2.2.2.2.2.2.1).1
theorem no:∀ r,lX=some r->ac Tryz.prog 49 [] (.slice (List.map cX r)):=(aZ.2.2.2.2.2.2.1).2
def lY:Option ((List (List UInt8))):=(aZ.2.2.2.2.2.2.2).1
theorem rM:∀ r,lY=some r->ac Tryz.prog 51 [] (.slice (List.map cX r)):=(aZ.2.2.2.2.2.2.2).2
def uL:SC:=(.sq [.r 4 (.mv (.i 0)),.r 5 (.mv (.b false))] (.seq (.seq (.reg (.v 8 0:: .r 9 (.lenT (.t 8)):: .v 10 1:: .k 11 .gtr 9 10:: .v 12 11::bK [13,14,15] 12 false (.v 13 0:: .c 14 (.f 135) [.t 13]:: .r 15 (.not (.t 14))::[]) (.r 16 (.pick (.t 12) (.b true) (.t 15)):: .v 17 16::bK [18,19,20,21,22,23,24,25] 17 false (.v 18 0:: .r 19 (.lenT (.t 18)):: .j 20 .gtr 19 1:: .v 21 20::bK [22,23,24] 21 true (.v 22 0:: .r 23 (.sidx (.t 22) (.i 0)):: .r 24 (.bin .eql (.t 23) (.c (.d (.int .u8 48))))::[]) (.r 25 (.pick (.t 21) (.t 24) (.b false))::[])) (.r 26 (.pick (.t 17) (.b true) (.t 25))::[])))) (.cond (.t 26) (.sq [.r 4 (.mv (.i 0)),.r 5 (.mv (.b false))] .ret) .skip)) (.sq [.v 28 0,.c 29 (.f 59) [.t 28],.v 27 29,.e 30 27 0,.e 31 27 1,.v 6 30,.v 7 31] (.seq (.regD [.v 32 6,.v 33 7,.r 34 (.binI .eql (.t 33) (.c (.d (.raw .nilIface)))),.v 4 32,.v 5 34]) .ret))))
theorem Bl:fits Tryz.prog 95 Tryz.f95 uL [.t 4,.t 5] 2=true:=oK
def wI:SC:=(.sq [.r 2 (.mv (.b false))] (.sq [.v 3 0,.c 4 (.f 39) [.t 3,.c (.d (.int .i64 1)),.c (.d (.int .i64 3652059))],.r 5 (.not (.t 4)),.v 2 5] .ret))
theorem Cl:fits Tryz.prog 38 Tryz.f38 wI [.t 2] 1=true:=oK
def uM:SC:=(.sq [.r 1 (.boxI (.t 0)),.r 2 (.mv (.c (.d (.str []))))] (.sq [.a 6 2 1,.r 7 (.build [.d (.int .i64 0),.d (.int .i64 0),.d (.int .i64 0)] [(0,1,.c (.d (.int .i64 1))),(1,1,.c (.d (.int .i64 1))),(2,1,.c (.d (.int .i64 1)))]),.c 8 (.f 134) [.t 6,.t 7],.v 5 8,.e 9 5 0,.e 10 5 1,.v 3 9,.v 4 10] (.sq [.v 11 3,.v 2 11] .ret)))
theorem Bm:fits Tryz.prog 92 Tryz.f92 uM [.t 2] 1=true:=oK
def tm:SC:=(.sq [.r 1 (.boxI (.t 0)),.r 2 (.mv (.b false))] (.seq (.sq [.f 5 1 1,.l 6 5,.h 7 6,.j 8 .eql 7 0] (.cond (.t 8) (.sq [.r 2 (.mv (.b false))] .ret) .skip)) (.sq [.f 10 1 1,.l 11 10,.r 12 (.slc 1 (.t 11) none (some (.i 1))),.r 13 (.build [.d (.str []),.nils] [(1,1,.t 12)]),.c 14 (.f 58) [.t 13],.v 9 14,.e 15 9 0,.e 16 9 1,.v 3 15,.v 4 16] (.seq (.reg (.v 17 4:: .v 18 17::bK [19,20,21,22] 18 true (.v 19 3:: .r 20 (.idx 1 (.t 19) (.i 0)):: .r 21 (.ld1 (.t 20)):: .c 22 (.f 36) [.t 21]::[]) (.r 23 (.pick (.t 18) (.t 22) (.b false)):: .v 2 23::[]))) .ret))))
theorem zd:fits Tryz.prog 94 Tryz.f94 tm [.t 2] 1=true:=oK
def ee:(∀ (B:List UInt8) (x1:Int),{m:Option (Int×Bool)//∀ r,m=some r->ac Tryz.prog 95 [.str B,.int .i64 x1] (.tup [.int .i64 r.1,.bool r.2])})×(∀ (B:Int),{m:Option (Bool)//∀ r,m=some r->ac Tryz.prog 38 [.int .i64 B] (.bool r)})×(∀ (B:aa),{m:Option ((List UInt8))//∀ r,m=some r->ac Tryz.prog 92 [.agg (ae B)] (.str r)})×(∀ (B:aa),{m:Option (Bool)//∀ r,m=some r->ac Tryz.prog 94 [.agg (ae B)] (.bool r)}):=by
 refine⟨?g0, ?g1, ?g2, ?g3⟩
 case' g0=>(intro B x1;apply Subtype.mk;intro r Z;apply av Tryz.func95 Bl;unfold uL)
 case' g1=>(intro B;apply Subtype.mk;intro r Z;apply av Tryz.func38 Cl;unfold wI)
 case' g2=>(intro B;apply Subtype.mk;intro r Z;apply av Tryz.func92 Bm;unfold uM)
 case' g3=>(intro B;apply Subtype.mk;intro r Z;apply av Tryz.func94 zd;unfold tm)
 all_goals(repeat'(first|with_reducible refine cC ?_|with_reducible refine cv ?_|with_reducible refine fl ?_|with_reducible refine b5 ?_|with_reducible refine d9 ?_|with_reducible refine cw ?_|with_reducible refine cE ?_|with_reducible refine dF ?_|with_reducible refine dT ?_|((with_reducible apply fp Z);(iterate 2 (simp only[push_cast,seval];rfl));(intro _;rfl);intro e Z)|((with_reducible apply rj Z);(iterate 2 (simp only[push_cast,seval];rfl));intro e Z)|((with_reducible apply Eo Z);(iterate 3 (simp only[push_cast,seval];rfl));(intro _;rfl);intro e Z)|((with_reducible apply iC);(simp only[push_cast,seval];rfl);(first|exact trivial))|((with_reducible apply nx Z);(simp only[push_cast,seval];rfl);rfl;intro v Z;rotate_left;intro v g Z)|((with_reducible apply rZ Z);(simp only[push_cast,seval];rfl);rfl;intro v Z;rotate_left;intro v g Z)|((with_reducible apply j0 Z);(simp only[push_cast,seval];rfl);(first|apply pb _|apply pg _|apply mP _ _ _|apply xT _ _|apply kg _|apply ik _);(any_goals((repeat'(first|rfl|(with_reducible first|apply y3|apply Ey|apply A1|apply lI)));done));intro x Z)|((with_reducible apply bv Z);(simp only[push_cast,seval];rfl);intro Z;rotate_left;intro Z)|((with_reducible apply AY Z);(focus(simp only[dE,im,RV.get,push_cast,seval];rfl));(focus(first|(dsimp only;done)));(focus((repeat'(first|rfl));done)))|((with_reducible apply eS Z);(focus(simp only[dE,im,RV.get,push_cast,seval];rfl));(focus((repeat'(first|rfl));done)))|((with_reducible apply fL Z);(simp only[push_cast,seval];rfl))))
def lZ (B:List UInt8) (x1:Int):Option (Int×Bool):=(ee.1 B x1).1
theorem rN (B:List UInt8) (x1:Int):∀ r,lZ B x1=some r->ac Tryz.prog 95 [.str B,.int .i64 x1] (.tup [.int .i64 r.1,.bool r.2]):=(ee.1 B x1).2
def ng (B:Int):Option (Bool):=(ee.2.1 B).1
theorem tn (B:Int):∀ r,ng B=some r->ac Tryz.prog 38 [.int .i64 B] (.bool r):=(ee.2.1 B).2
def rx (B:aa):Option ((List UInt8)):=(ee.2.2.1 B).1
theorem ze (B:aa):∀ r,rx B=some r->ac Tryz.prog 92 [.agg (ae B)] (.str r):=(ee.2.2.1 B).2
def pu (B:aa):Option (Bool):=(ee.2.2.2 B).1
theorem xU (B:aa):∀ r,pu B=some r->ac Tryz.prog 94 [.agg (ae B)] (.bool r):=(ee.2.2.2 B).2
def tp:SC:=(.sq [.r 1 (.boxI (.t 0)),.r 2 (.mv (.b false))] (.sq [.a 10 2 1,.c 11 (.f 58) [.t 10],.v 9 11,.e 12 9 0,.e 13 9 1,.v 3 12,.v 4 13] (.seq (.seq (.reg (.v 14 4:: .r 15 (.not (.t 14)):: .v 16 15::bK [17,18,19] 16 false (.v 17 3:: .h 18 17:: .j 19 .eql 18 0::[]) (.r 20 (.pick (.t 16) (.b true) (.t 19)):: .v 21 20::bK [22,23,24,25,26] 21 false (.v 22 3:: .r 23 (.idx 1 (.t 22) (.i 0)):: .r 24 (.ld1 (.t 23)):: .c 25 (.f 36) [.t 24]:: .r 26 (.not (.t 25))::[]) (.r 27 (.pick (.t 21) (.b true) (.t 26))::[])))) (.cond (.t 27) (.sq [.r 2 (.mv (.b false))] .ret) .skip)) (.seq (.sq [.f 28 0 1,.l 29 28] (.block 0 (.sq [.r 31 (.bin .eql (.t 29) (.c (.d (.str [71,72,68])))),.v 30 31] (.cond (.t 30) (.seq (.reg (.v 32 3:: .h 33 32:: .j 34 .eql 33 2:: .v 35 34::bK [36,37,38,39] 35 true (.v 36 3:: .r 37 (.idx 1 (.t 36) (.i 1)):: .r 38 (.ld1 (.t 37)):: .c 39 (.f 37) [.t 38]::[]) (.r 40 (.pick (.t 35) (.t 39) (.b false)):: .v 2 40::[]))) .ret) (.sq [.r 42 (.bin .eql (.t 29) (.c (.d (.str [77,72,68])))),.v 41 42] (.cond (.t 41) (.seq (.reg (.v 43 3:: .h 44 43:: .j 45 .eql 44 3:: .v 46 45::bK [47,48,49,50] 46 true (.v 47 3:: .r 48 (.idx 1 (.t 47) (.i 1)):: .r 49 (.ld1 (.t 48)):: .c 50 (.f 37) [.t 49]::[]) (.r 51 (.pick (.t 46) (.t 50) (.b false)):: .v 52 51::bK [53,54,55,56] 52 true (.v 53 3:: .r 54 (.idx 1 (.t 53) (.i 2)):: .r 55 (.ld1 (.t 54)):: .c 56 (.f 37) [.t 55]::[]) (.r 57 (.pick (.t 52) (.t 56) (.b false)):: .v 2 57::[])))) .ret) .skip)))))) (.seq (.seq (.reg (.v 58 3:: .h 59 58:: .j 60 .neq 59 6:: .v 61 60::bK [62,63,64,65,66] 61 false (.v 62 3:: .r 63 (.idx 1 (.t 62) (.i 1)):: .r 64 (.ld1 (.t 63)):: .c 65 (.f 37) [.t 64]:: .r 66 (.not (.t 65))::[]) (.r 67 (.pick (.t 61) (.b true) (.t 66)):: .v 68 67::bK [69,70,71,72,73] 68 false (.v 69 3:: .r 70 (.idx 1 (.t 69) (.i 2)):: .r 71 (.ld1 (.t 70)):: .c 72 (.f 37) [.t 71]:: .r 73 (.not (.t 72))::[]) (.r 74 (.pick (.t 68) (.b true) (.t 73)):: .v 75 74::bK [76,77,78,79,80,81,82,83,84,85] 75 false (.v 76 3:: .r 77 (.idx 1 (.t 76) (.i 5)):: .r 78 (.ld1 (.t 77)):: .r 79 (.bin .neq (.t 78) (.c (.d (.str [])))):: .v 80 79::bK [81,82,83,84] 80 true (.v 81 3:: .r 82 (.idx 1 (.t 81) (.i 5)):: .r 83 (.ld1 (.t 82)):: .r 84 (.bin .neq (.t 83) (.c (.d (.str [49]))))::[]) (.r 85 (.pick (.t 80) (.t 84) (.b false))::[])) (.r 86 (.pick (.t 75) (.b true) (.t 85))::[]))))) (.cond (.t 86) (.sq [.r 2 (.mv (.b false))] .ret) .skip)) (.sq [.v 88 3,.r 89 (.idx 1 (.t 88) (.i 3)),.l 90 89,.c 91 (.f 95) [.t 90,.c (.d (.int .i64 9))],.v 87 91,.e 92 87 0,.e 93 87 1,.v 5 92,.v 6 93] (.sq [.v 95 3,.r 96 (.idx 1 (.t 95) (.i 4)),.l 97 96,.c 98 (.f 95) [.t 97,.c (.d (.int .i64 9))],.v 94 98,.e 99 94 0,.e 100 94 1,.v 7 99,.v 8 100] (.seq (.reg (.v 101 6:: .v 102 101::bK [103] 102 true (.v 103 8::[]) (.r 104 (.pick (.t 102) (.t 103) (.b false)):: .v 105 104::bK [106,107] 105 true (.v 106 5:: .c 107 (.f 38) [.t 106]::[]) (.r 108 (.pick (.t 105) (.t 107) (.b false)):: .v 109 108::bK [110,111,112] 109 true (.v 110 7:: .c 111 (.f 39) [.t 110,.c (.d (.int .i64 0)),.c (.d (.int .i64 86399))]:: .r 112 (.not (.t 111))::[]) (.r 113 (.pick (.t 109) (.t 112) (.b false)):: .v 2 113::[]))))) .ret))))))))
theorem zf:fits Tryz.prog 93 Tryz.f93 tp [.t 2] 1=true:=oK
def tq:(∀ (B:aa),{m:Option (Bool)//∀ r,m=some r->ac Tryz.prog 93 [.agg (ae B)] (.bool r)}):=by
 (intro B;apply Subtype.mk;intro r Z;apply av Tryz.func93 zf;unfold tp)
 repeat'(first|with_reducible refine cC ?_|with_reducible refine cv ?_|with_reducible refine bn ?_|with_reducible refine b5 ?_|with_reducible refine d9 ?_|with_reducible refine cw ?_|with_reducible refine cE ?_|with_reducible refine dF ?_|with_reducible refine bD ?_|with_reducible refine cR ?_|with_reducible refine dT ?_|((with_reducible apply fp Z);(iterate 2 (simp only[push_cast,seval];rfl));(intro _;rfl);intro e Z)|((with_reducible apply iC);(simp only[push_cast,seval];rfl);(first|exact trivial))|((with_reducible apply nx Z);(simp only[push_cast,seval];rfl);rfl;intro v Z;rotate_left;intro v g Z)|((with_reducible apply rZ Z);(simp only[push_cast,seval];rfl);rfl;intro v Z;rotate_left;intro v g Z)|((with_reducible apply j0 Z);(simp only[push_cast,seval];rfl);(first|apply kg _|apply ik _|apply kh _|apply rN _ _|apply tn _|apply mP _ _ _);(any_goals((repeat'(first|rfl));done));intro x Z)|((with_reducible apply bv Z);(simp only[push_cast,seval];rfl);intro Z;rotate_left;intro Z)|((with_reducible apply eS Z);(focus(simp only[dE,im,RV.get,push_cast,seval];rfl));(focus((repeat'(first|rfl));done)))|((with_reducible apply fL Z);(simp only[push_cast,seval];rfl)))
def pv (B:aa):Option (Bool):=(tq B).1
theorem xV (B:aa):∀ r,pv B=some r->ac Tryz.prog 93 [.agg (ae B)] (.bool r):=(tq B).2
end

end Go.Proofs.YtgmnipfafmphaaaGreatDoor
