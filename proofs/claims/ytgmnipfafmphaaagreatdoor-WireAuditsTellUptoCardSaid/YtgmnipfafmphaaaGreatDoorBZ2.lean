/-
  Texts of mine, one behind the other (SZNC, SZNX, SZShelfU, SZLibA, SZLibA0, SZLibA1, SZLibA2, SZLibA3, SZFU, SZGS, SZGA, SZGA2).
-/
import Derived.Test.YtgmnipfafmphaaaGreatDoorBZ1
import Derived.Test.YtgmnipfafmphaaaGreatDoorSZEngW
import Derived.Test.YtgmnipfafmphaaaGreatDoorSZEngWk
import Derived.Test.YtgmnipfafmphaaaGreatDoorSZEngA
import Derived.Ground.NamesProg
import Derived.Ground.Names7Prog
import Derived.Shelf.Spec.DecodeRune
import Derived.Test.YtgmnipfafmphaaaGreatDoorProg
import Derived.Shelf.Strings.IndexAnyAll
import Derived.Shelf.Unicode.DecodeLastEight
import Derived.Lib.RuneCountTail
import Derived.Lib.TrimU
import Derived.Test.YtgmnipfafmphaaaGreatDoorSZEngY
import Derived.Test.YtgmnipfafmphaaaGreatDoorSZEngZz
import Derived.Test.YtgmnipfafmphaaaGreatDoorSZEngRp
import Derived.Test.YtgmnipfafmphaaaGreatDoorSZEngRq
namespace Go.Proofs.YtgmnipfafmphaaaGreatDoor
open Go.RowKit
set_option linter.unusedSimpArgs false
set_option linter.unusedVariables false
def F0:List aL:=[.sl 9 [.sh]]
def GB:List aL:=[.sl 34 F0]
def KT:List aL:=[.sh,.sl 98 GB]
def qc (x:aa):Prop:=x.fElements.length<=137438953472/\∀ e∈x.fElements,e.fRepeats.length<=137438953472/\∀ p∈e.fRepeats,p.length<=137438953472
instance (x:aa):Decidable (qc x):=by unfold qc;infer_instance
def jT (x:aa):Option aa:=if qc x then some x else none
theorem HH (y:ax):bW [.sh] (ap y)=[.d (.slice (List.map (gf dB) y.fRepeats))]:=rfl
theorem Jd (y:ax):bW GB (ap y)=[.own (.sl 34 F0) (.slice (List.map (gf dB) y.fRepeats))]:=rfl
theorem HI (y:List (List UInt8)):bW [.sh] (gf dB y)=[.d (.slice (List.map dB y))]:=rfl
theorem Je (y:List (List UInt8)):bW F0 (gf dB y)=[.own (.sl 9 [.sh]) (.slice (List.map dB y))]:=rfl
set_option maxRecDepth 100000
set_option maxHeartbeats 4000000
theorem w_ (x:aa) (hx:qc x):bI Tryz.prog 86 (([.agg (af x)]:List DV).map .d) (.agg (bW KT (af x))) (([.agg (af x)]:List DV).map .d):=by
 obtain⟨tag,els⟩:=x
 obtain⟨hx1,hx2⟩:=hx
 dsimp only at hx1 hx2
 refine ul (N:=48) (k:=1) Tryz.func86 vo oK rfl rfl ?_
 unfold qp
 repeat'(first|((with_reducible apply Kw);(focus(simp only[push_cast,seval];rfl));(focus exact dr els els (by unfold aT;rw[if_pos hx1]));(focus rfl);(focus(intro _;rfl)))|with_reducible refine d6 ?_|with_reducible refine dL ?_|with_reducible refine ii ?_|with_reducible refine nI ?_|with_reducible refine ze ?_|with_reducible refine cd ?_|with_reducible refine cG ?_|with_reducible refine fL ?_|with_reducible refine d8 ?_|with_reducible refine dM ?_|with_reducible refine d7 ?_|with_reducible refine d9 ?_|with_reducible refine eO ?_|with_reducible refine cg ?_|with_reducible refine eh ?_|with_reducible refine m9 ?_|with_reducible refine zm ?_|with_reducible refine zn ?_|with_reducible refine zk ?_|with_reducible refine zl ?_|with_reducible refine fV ?_|((with_reducible apply oN);decide)|((with_reducible apply j1);(focus(simp only[push_cast,seval];rfl));(focus(first|exact trivial|omega)))|((with_reducible apply zg);(focus(simp only[push_cast,seval];rfl));(focus(first|exact trivial|omega)))|((with_reducible apply GA);(focus(simp only[push_cast,seval];rfl));(focus(first|exact trivial|omega));(focus exact eC)))
 ·unfold mT mS
  refine cd ?_
  refine Ia (α:=Unit) (b0:=0) (c:=15) (k:=14) (n:=13) (t:=46) (fun i _=>st [(1,.ref 1 0),(2,.ref 2 0),(12,.vec 9),(13,.d (.int .i64 (els.length:Int))),(14,.d (.int .i64 (i:Int))),(48,.d (.agg (af ⟨tag,els⟩)))]
   [(1,.box [.d (.str tag),.vec 9]),(2,.box [.d (.str []),.nils]),(9,.vec 98 1 (ov GB [.sh] ap els i))]) (fun _ _=>True) els.length () oM (fun _ _=>rfl) (fun _ _=>rfl) ?h0 trivial ?body ?done
  case h0=>exact zf (by simp only[vK,push_cast,seval,and_self]) (by simp only[vL,push_cast,seval,yw,and_self])
  case body=>
   intro i _ hi _
   obtain⟨y,hy⟩:∃ y,els[i]?=some y:=⟨els[i],K6 hi⟩
   have hmem:y∈els:=K8 hy
   obtain⟨hy1,hy2⟩:=hx2 y hmem
   have hpl:(aw GB ap (els.take i)).length=i:=by rw[cX];simp;omega
   have e0:ov GB [.sh] ap els i=ij (aw GB ap (els.take i)) [.d (.slice (List.map (gf dB) y.fRepeats))] (aw [.sh] ap (els.drop (i+1))):=by
    rw[yx hy,HH]
   dsimp only
   rw[e0]
   repeat'(first|((with_reducible apply FA);(focus(simp only[push_cast,seval];rfl));(focus(simp only[push_cast,seval];rfl));(focus(simp only[push_cast,seval];rfl));(focus exact hpl);(focus rfl))|((with_reducible apply I4);(focus(simp only[push_cast,seval];rfl));(focus(simp only[push_cast,seval];rfl));(focus exact hpl);(focus(simp only[push_cast,seval];rfl));(focus rfl);(focus simp))|((with_reducible apply JU);(focus(simp only[push_cast,seval];rfl));(focus exact iV y.fRepeats y.fRepeats (by unfold dW;rw[if_pos hy1]));(focus rfl);(focus(intro _;rfl));(focus((repeat'(first|exact eC|((with_reducible apply fc);(focus(simp only[push_cast,seval];rfl));(focus exact trivial);(focus(simp only[push_cast,seval])))));done)))|((with_reducible apply FB);(focus(simp only[push_cast,seval];rfl));(focus(simp only[push_cast,seval];rfl));(focus(simp only[push_cast,seval];rfl));(focus exact hpl);(focus simp);(focus(simp only[push_cast,seval];rfl));(focus exact eC))|with_reducible refine d6 ?_|with_reducible refine dL ?_|with_reducible refine ii ?_|with_reducible refine nI ?_|with_reducible refine ze ?_|with_reducible refine cd ?_|with_reducible refine cG ?_|with_reducible refine fL ?_|with_reducible refine d8 ?_|with_reducible refine dM ?_|with_reducible refine d7 ?_|with_reducible refine d9 ?_|with_reducible refine eO ?_|with_reducible refine cg ?_|with_reducible refine eh ?_|with_reducible refine m9 ?_|with_reducible refine zm ?_|with_reducible refine zn ?_|with_reducible refine zk ?_|with_reducible refine zl ?_|with_reducible refine fV ?_|((with_reducible apply oN);decide)|((with_reducible apply j1);(focus(simp only[push_cast,seval];rfl));(focus(first|exact trivial|omega)))|((with_reducible apply zg);(focus(simp only[push_cast,seval];rfl));(focus(first|exact trivial|omega)))|((with_reducible apply GA);(focus(simp only[push_cast,seval];rfl));(focus(first|exact trivial|omega));(focus exact eC)))
   ·unfold mR mQ
    refine cd ?_
    refine Ia (α:=Unit) (b0:=2) (c:=31) (k:=30) (n:=29) (t:=45) (fun k _=>st [(1,.ref 1 0),(2,.ref 2 0),(3,.d (.int .i64 (i:Int))),(4,.ref 4 0),(12,.vec 9),(13,.d (.int .i64 (els.length:Int))),(14,.d (.int .i64 (i:Int))),(28,.d (.slice (List.map (gf dB) y.fRepeats))),(29,.d (.int .i64 (y.fRepeats.length:Int))),(30,.d (.int .i64 (k:Int))),(48,.d (.agg (af ⟨tag,els⟩)))]
     [(1,.box [.d (.str tag),.vec 9]),(2,.box [.d (.str []),.nils]),(9,.vec 98 1 (ij (aw GB ap (els.take i)) [.vec 24] (aw [.sh] ap (els.drop (i+1))))),(24,.vec 34 1 (ov F0 [.sh] (gf dB) y.fRepeats k))]) (fun _ _=>True) y.fRepeats.length () oM (fun _ _=>rfl) (fun _ _=>rfl) ?g0 trivial ?gbody ?gdone
    case g0=>exact zf (by simp only[vK,push_cast,seval,and_self]) (by simp only[vL,push_cast,seval,yw,List.replicate,and_self])
    case gbody=>
     intro k _ hk _
     obtain⟨z,hz⟩:∃ z,y.fRepeats[k]?=some z:=⟨y.fRepeats[k],K6 hk⟩
     have hz1:=hy2 z (K8 hz)
     have hpl2:(aw F0 (gf dB) (y.fRepeats.take k)).length=k:=by rw[cX];simp;omega
     have e1:ov F0 [.sh] (gf dB) y.fRepeats k=ij (aw F0 (gf dB) (y.fRepeats.take k)) [.d (.slice (List.map dB z))] (aw [.sh] (gf dB) (y.fRepeats.drop (k+1))):=by
      rw[yx hz,HI]
     have e2:ov F0 [.sh] (gf dB) y.fRepeats (k+1)=ij (aw F0 (gf dB) (y.fRepeats.take k)) [.own (.sl 9 [.sh]) (.slice (List.map dB z))] (aw [.sh] (gf dB) (y.fRepeats.drop (k+1))):=by
      rw[<-yy hz,Je]
     dsimp only
     rw[e1]
     repeat'(first|((with_reducible apply FA);(focus(simp only[push_cast,seval];rfl));(focus(simp only[push_cast,seval];rfl));(focus(simp only[push_cast,seval];rfl));(focus(first|exact hpl|exact hpl2));(focus rfl))|((with_reducible apply I5);(focus(simp only[push_cast,seval];rfl));(focus(simp only[push_cast,seval];rfl));(focus(intro _;rfl));(focus exact FD hz))|((with_reducible apply JT);(focus(simp only[push_cast,seval];rfl));(focus(simp only[push_cast,seval];rfl));(focus exact hpl);(focus(simp only[push_cast,seval];rfl));(focus rfl))|((with_reducible apply JU);(focus(simp only[push_cast,seval];rfl));(focus exact jR z z (by unfold el;rw[if_pos hz1]));(focus rfl);(focus(intro _;rfl));(focus((repeat'(first|exact eC|((with_reducible apply FC);(focus(simp only[push_cast,seval];rfl));(focus(simp only[push_cast,seval];rfl));(focus(simp only[push_cast,seval];rfl));(focus exact hpl);(focus rfl);(focus(simp only[push_cast,seval];(try rfl);done)))|((with_reducible apply Hq);(focus(simp only[push_cast,seval];rfl));(focus(simp only[push_cast,seval];rfl));(focus exact hpl);(focus(simp only[push_cast,seval];rfl));(focus rfl);(focus(simp only[push_cast,seval];(try rfl);done)))|((with_reducible apply fc);(focus(simp only[push_cast,seval];rfl));(focus exact trivial);(focus(simp only[push_cast,seval])))));done)))|((with_reducible apply FB);(focus(simp only[push_cast,seval];rfl));(focus(simp only[push_cast,seval];rfl));(focus(simp only[push_cast,seval];rfl));(focus exact hpl2);(focus simp);(focus(simp only[push_cast,seval];rfl));(focus exact eC))|with_reducible refine d6 ?_|with_reducible refine dL ?_|with_reducible refine ii ?_|with_reducible refine nI ?_|with_reducible refine ze ?_|with_reducible refine cd ?_|with_reducible refine cG ?_|with_reducible refine fL ?_|with_reducible refine d8 ?_|with_reducible refine dM ?_|with_reducible refine d7 ?_|with_reducible refine d9 ?_|with_reducible refine eO ?_|with_reducible refine cg ?_|with_reducible refine eh ?_|with_reducible refine m9 ?_|with_reducible refine zm ?_|with_reducible refine zn ?_|with_reducible refine zk ?_|with_reducible refine zl ?_|with_reducible refine fV ?_|((with_reducible apply oN);decide)|((with_reducible apply j1);(focus(simp only[push_cast,seval];rfl));(focus(first|exact trivial|omega)))|((with_reducible apply zg);(focus(simp only[push_cast,seval];rfl));(focus(first|exact trivial|omega)))|((with_reducible apply GA);(focus(simp only[push_cast,seval];rfl));(focus(first|exact trivial|omega));(focus exact eC)))
     ·apply H_ ()
      (focus(simp only[push_cast,seval]))
      rotate_left
      (focus exact trivial)
      refine ce.trans (ww (id:=24) (cid:=43) (off:=0) (ms':=[.sh]) (row':=dB) (y:=z) (k:=k) (by(simp only[push_cast,seval];(try rfl);done)) (by(simp only[push_cast,seval];(try rfl);done)) hpl2.symm (by(simp only[push_cast,seval];(try rfl);done)) kb rfl (fun _=>rfl) oD (by(simp only[push_cast,seval];(try rfl);done))) ?_
      exact zf (by simp only[vK,push_cast,seval,and_self]) (by simp only[vL,push_cast,seval,e2,and_self])
    case gdone=>
     intro _ _
     refine cg ?_
     have e3:ov GB [.sh] ap els (i+1)=ij (aw GB ap (els.take i)) [.own (.sl 34 F0) (.slice (List.map (gf dB) y.fRepeats))] (aw [.sh] ap (els.drop (i+1))):=by
      rw[<-yy hy,Jd]
     dsimp only
     rw[A6]
     apply H_ ()
     (focus(simp only[push_cast,seval]))
     rotate_left
     (focus exact trivial)
     refine ce.trans (ww (id:=9) (cid:=24) (off:=0) (ms':=F0) (row':=gf dB) (y:=y.fRepeats) (k:=i) (by(simp only[push_cast,seval];(try rfl);done)) (by(simp only[push_cast,seval];(try rfl);done)) hpl.symm (by(simp only[push_cast,seval];(try rfl);done)) kb rfl (fun _=>rfl) oD (by(simp only[push_cast,seval];(try rfl);done))) ?_
     exact zf (by simp only[vK,push_cast,seval,and_self]) (by simp only[vL,push_cast,seval,e3,and_self])
  case done=>
   intro _ _
   dsimp only
   rw[A6]
   repeat'(first|with_reducible refine d6 ?_|with_reducible refine dL ?_|with_reducible refine ii ?_|with_reducible refine nI ?_|with_reducible refine ze ?_|with_reducible refine cd ?_|with_reducible refine cG ?_|with_reducible refine fL ?_|with_reducible refine d8 ?_|with_reducible refine dM ?_|with_reducible refine d7 ?_|with_reducible refine d9 ?_|with_reducible refine eO ?_|with_reducible refine cg ?_|with_reducible refine eh ?_|with_reducible refine m9 ?_|with_reducible refine zm ?_|with_reducible refine zn ?_|with_reducible refine zk ?_|with_reducible refine zl ?_|with_reducible refine fV ?_|((with_reducible apply oN);decide)|((with_reducible apply j1);(focus(simp only[push_cast,seval];rfl));(focus(first|exact trivial|omega)))|((with_reducible apply zg);(focus(simp only[push_cast,seval];rfl));(focus(first|exact trivial|omega)))|((with_reducible apply GA);(focus(simp only[push_cast,seval];rfl));(focus(first|exact trivial|omega));(focus exact eC)))
   ·apply FL (r0:=(⟨tag,els⟩:aa)) (r:=⟨tag,els⟩) (row:=af) rfl (ce.refl _)
    (focus(simp only[push_cast,seval];rfl))
    (focus(simp only[push_cast,seval];rfl))
    (focus(simp only[push_cast,seval];(try rfl);done))
    (focus exact jh.data rfl (CU (l:=els) (row:=ap) (ms:=GB) (by(simp only[push_cast,seval];(try rfl);done)) rfl (fun _=>rfl) oS jh.nil))
    (focus rfl)
theorem tF (x:aa):∀ r,jT x=some r->bI Tryz.prog 86 (([.agg (af x)]:List DV).map .d) (.agg (bW KT (af r))) (([.agg (af x)]:List DV).map .d):=by
 intro r hr
 unfold jT at hr
 split at hr
 ·rename_i hx;cases hr;exact w_ x hx
 ·cases hr
theorem uS (x:aa):∀ r,jT x=some r->ae Tryz.prog 86 [.agg (af x)] (.agg (af r)):=fun r hr=>
 ((tF x r hr).weak (ms':=[.sh,.sh]) rfl rfl).pure rfl
end Go.Proofs.YtgmnipfafmphaaaGreatDoor
namespace Go.Proofs
open Go.Proofs.YtgmnipfafmphaaaGreatDoor
open Go.Shelf
end Go.Proofs
namespace Go.Proofs.YtgmnipfafmphaaaGreatDoor
set_option linter.unusedSimpArgs false
set_option linter.unusedVariables false
open Go.RowKit Go.Shelf Go.Lib
def Ju (s:ByteArray) (b off:Nat) (w:World):Prop:=∀ j,j<s.size->w.cell? ⟨b,off+j,none⟩=some (.int .u8 (s.get! j).toNat)
theorem Ju.below {s:ByteArray} {b off:Nat} {w w':World} (h:Ju s b off w) (hb:Below w.heap.size w w'):Ju s b off w':=
 fun j hj=>by rw[hb.cell (block_lt_of_cell (h j hj))];exact h j hj
theorem Ju.tail {s:ByteArray} {b off:Nat} {w:World} (h:Ju s b off w) (n:Nat):Ju (s.extract n s.size) b (off+n) w:=
 fun j hj=>by
  rw[Lib.tail_size] at hj
  rw[Lib.tail_get!,M2]
  exact h (n+j) oM
end Go.Proofs.YtgmnipfafmphaaaGreatDoor
namespace Go.Proofs.YtgmnipfafmphaaaGreatDoor
set_option linter.unusedSimpArgs false
set_option linter.unusedVariables false
open Go.RowKit Go.Shelf Go.Lib
structure KY (s:ByteArray) (i r k:Nat):Prop where
 rune:128<=r
 pos:1<=k
 all:∀ j,j<k->i+j<s.size/\128<=(s.get! (i+j)).toNat
 enc:r≠65533->2<=k/\(Utf8.encode (r:Int)).size=k/\128<=((Utf8.encode (r:Int)).get! 0).toNat
end Go.Proofs.YtgmnipfafmphaaaGreatDoor
namespace Go.Proofs.YtgmnipfafmphaaaGreatDoor
set_option linter.unusedSimpArgs false
set_option linter.unusedVariables false
open Go.RowKit Go.Shelf Go.Lib
end Go.Proofs.YtgmnipfafmphaaaGreatDoor
namespace Go.Proofs.YtgmnipfafmphaaaGreatDoor
set_option linter.unusedSimpArgs false
set_option linter.unusedVariables false
open Go.RowKit Go.Shelf Go.Lib
end Go.Proofs.YtgmnipfafmphaaaGreatDoor
namespace Go.Proofs.YtgmnipfafmphaaaGreatDoor
set_option linter.unusedSimpArgs false
set_option linter.unusedVariables false
open Go.RowKit Go.Shelf Go.Lib
end Go.Proofs.YtgmnipfafmphaaaGreatDoor
namespace Go.Proofs.YtgmnipfafmphaaaGreatDoor
set_option linter.unusedSimpArgs false
set_option linter.unusedVariables false
theorem Io:∃ n:Nat,1000000<=n:=⟨_,K9 _⟩
noncomputable def FU:Nat:=Classical.choose Io
theorem I_:1000000<=FU:=Classical.choose_spec Io
end Go.Proofs.YtgmnipfafmphaaaGreatDoor
namespace Go.Proofs.YtgmnipfafmphaaaGreatDoor
open Go.RowKit
set_option linter.unusedSimpArgs false
set_option linter.unusedVariables false
structure ac where
 fKind:Int
 fSegment:Int
 deriving DecidableEq
def ab (x:ac):List DV:=[.int .i64 x.fKind,.int .i64 x.fSegment]
attribute [push_cast] ab
theorem zL {d0 d1:DV} {v0:Int} {v1:Int} (h0:d0= .int .i64 v0) (h1:d1= .int .i64 v1):[d0,d1]=ab ⟨v0,v1⟩:=by unfold ab;simp only[h0,h1,Lw,Lk,Lc,Lr]
def a8:SC:=
 (.seq (.seq (.regD (.r 18 (.mv (.t 9)):: .r 19 (.mv (.t 1)):: .r 20 (.bin .gtr (.t 18) (.t 19)):: .r 21 (.mv (.t 20))::cD [22,23,24,25,26,27,28,29,30,31,32,33] 21 true (.r 22 (.mv (.t 3)):: .r 23 (.mv (.t 0)):: .r 24 (.mv (.t 9)):: .r 25 (.idx 2 (.t 23) (.t 24)):: .r 26 (.ldA 2 (.t 25)):: .r 27 (.mv (.t 0)):: .r 28 (.mv (.t 9)):: .r 29 (.bin .sub (.t 28) (.c (.d (.int .i64 1)))):: .r 30 (.idx 2 (.t 27) (.t 29)):: .r 31 (.ldA 2 (.t 30)):: .c 32 (.t 22) [.t 26,.t 31]:: .r 33 (.bin .lss (.t 32) (.c (.d (.int .i64 0))))::[]) (.r 34 (.pick (.t 21) (.t 33) (.c (.d (.bool false))))::[])))
 (.cond (.t 34)
  .skip
  (.exit 2)))
 (.seq (.block 3 (.regE [.r 37 (.mv (.t 0)),
    .r 38 (.mv (.t 9)),
    .r 39 (.mv (.t 0)),
    .r 40 (.mv (.t 9)),
    .r 41 (.bin .sub (.t 40) (.c (.d (.int .i64 1)))),
    .r 42 (.mv (.t 0)),
    .r 43 (.mv (.t 9)),
    .r 44 (.bin .sub (.t 43) (.c (.d (.int .i64 1)))),
    .r 45 (.idx 2 (.t 42) (.t 44)),
    .r 46 (.ldA 2 (.t 45)),
    .r 47 (.mv (.t 0)),
    .r 48 (.mv (.t 9)),
    .r 49 (.idx 2 (.t 47) (.t 48)),
    .r 50 (.ldA 2 (.t 49)),
    .r 51 (.idx 2 (.t 37) (.t 38)),
    .x 0 (.st 2 (.t 51) (.t 46)) [(2,39,.mv (.t 0)),(3,40,.mv (.t 9)),(4,41,.bin .sub (.t 40) (.c (.d (.int .i64 1))))],
    .r 52 (.idx 2 (.t 39) (.t 41)),
    .x 0 (.st 2 (.t 52) (.t 50)) []]))
 (.reg [.r 35 (.mv (.t 9)),
   .r 36 (.bin .sub (.t 35) (.c (.d (.int .i64 1)))),
   .r 9 (.mv (.t 36))])))
def cb:SC:= .block 2 (.loop a8)
def a_:SC:=
 (.seq (.seq (.reg [.r 12 (.mv (.t 8)),
   .r 13 (.mv (.t 2)),
   .r 14 (.bin .lss (.t 12) (.t 13))])
 (.cond (.t 14)
  .skip
  (.exit 0)))
 (.seq (.block 1 (.seq (.reg [.r 17 (.mv (.t 8)),
    .r 9 (.mv (.t 17))])
  cb))
 (.reg [.r 15 (.mv (.t 8)),
   .r 16 (.bin .add (.t 15) (.c (.d (.int .i64 1)))),
   .r 8 (.mv (.t 16))])))
def cc:SC:= .block 0 (.loop a_)
def cf:SC:=
 (.seq (.reg [.r 10 (.mv (.t 1)),
   .r 11 (.bin .add (.t 10) (.c (.d (.int .i64 1)))),
   .r 8 (.mv (.t 11))])
 cc)
theorem eG:fits Tryz.prog 136 Tryz.f136 cf [] 4=true:=oK
set_option maxRecDepth 100000 in
set_option maxHeartbeats 40000000 in
noncomputable def pG:(∀ (x0:List ac) (x1:Int) (x2:Int) (f3:FuncId) (c3:List DV) (p3:ac->ac->Option (Int)) (h3:∀ a0 a1 r,p3 a0 a1=some r->ae Tryz.prog f3 ([.agg (ab a0),.agg (ab a1)]++c3) (.int .i64 r)),{m:Option ((Unit)×(List ac))//∀ r,m=some r->bI Tryz.prog 136 (.own (.sl 69 (List.replicate 2 .sh)) (.slice (List.map ab x0))::(List.map SV.d ([.int .i64 x1,.int .i64 x2,.fn f3 c3]:List DV))) (.tup []) (.own (.sl 69 (List.replicate 2 .sh)) (.slice (List.map ab r.2))::(List.map SV.d ([.int .i64 x1,.int .i64 x2,.fn f3 c3]:List DV)))}):=by
 (intro x0 x1 x2 f3 c3 p3 h3;apply Subtype.mk;intro r hm;apply hD (N:=53) (k:=4) Tryz.func136 eG oK rfl (jx (row:=ab) (n:=2) (fun _=>rfl) x0) rfl oD;unfold cf)
 repeat'(first|with_reducible refine d6 ?_|with_reducible refine dL ?_|with_reducible refine ii ?_|with_reducible refine nI ?_|with_reducible refine cd ?_|with_reducible refine cG ?_|with_reducible refine d8 ?_|with_reducible refine dM ?_|with_reducible refine d7 ?_|with_reducible refine d9 ?_|with_reducible refine cg ?_|((with_reducible apply rZ hm);(iterate 3 (simp only[push_cast,seval];rfl));intro e hm)|((with_reducible apply j1);(simp only[push_cast,seval];rfl);(first|exact trivial))|((with_reducible apply vb hm);(iterate 2 (simp only[push_cast,seval];rfl));(intro _;rfl);intro e hm)|((with_reducible apply oW hm);(simp only[push_cast,seval];rfl);rfl;intro v hm;rotate_left;intro v g hm)|((with_reducible apply Ft hm);(iterate 2 (simp only[push_cast,seval];rfl));(focus(first|exact h3 _ _));intro x hm)|((with_reducible apply B8 hm);(iterate 3 (simp only[push_cast,seval];rfl));rfl;(intro _;rfl);rfl;(focus(intro a;simp only[push_cast,seval];rfl));(focus(intro a;(repeat'(first|rfl));done));(focus(intro _;(repeat'(first|exact eC|((with_reducible apply fc);(focus(simp only[push_cast,seval];rfl));(focus(first|exact trivial));(focus(simp only[push_cast,seval])))));done));intro e hm)|((with_reducible apply cj hm);(simp only[push_cast,seval];rfl);intro hm;rotate_left;intro hm)|((with_reducible apply gT hm);(simp only[push_cast,seval];rfl))|((with_reducible apply dZ hm);intro r hm)|((apply aF (b:=2) (X:=cb) (x:=a8) rfl (fun(c:SV×SV×SV×SV×SV×SV×SV) (s:(List ac)×Int)=>st [(0,.vec 0),(1,c.1),(2,c.2.1),(3,c.2.2.1),(8,c.2.2.2.1),(9,.d (.int .i64 s.2)),(53,.vec 0),(54,c.2.2.2.2.1),(55,c.2.2.2.2.2.1),(56,c.2.2.2.2.2.2)] [(0,.vec 69 2 (bH ab s.1))]) (c:=(_,_,_,_,_,_,_)) (s0:=(_,_)) hm);(focus(first|(dsimp only;done)));(with_reducible refine dP.mk ?_ ?_))|((apply aF (b:=0) (X:=cc) (x:=a_) rfl (fun(c:SV×SV×SV×SV×SV×SV) (s:(List ac)×Int)=>st [(0,.vec 0),(1,c.1),(2,c.2.1),(3,c.2.2.1),(8,.d (.int .i64 s.2)),(53,.vec 0),(54,c.2.2.2.1),(55,c.2.2.2.2.1),(56,c.2.2.2.2.2)] [(0,.vec 69 2 (bH ab s.1))]) (c:=(_,_,_,_,_,_)) (s0:=(_,_)) hm);(focus(first|(dsimp only;done)));(with_reducible refine dP.mk ?_ ?_))|((apply ea (s':=(_,_)) hm);(focus(first|(dsimp only;done))))|((apply fU (s':=(_,_)) hm);(focus(first|(dsimp only;done))))|(((with_reducible apply lp hm (a:=()));(focus(exact ce.refl _));(focus(simp only[push_cast,seval];(try rfl);done));(focus((repeat'(first|(with_reducible first|apply k0)));done));(focus(intro _;rfl));(focus(simp only[push_cast,seval];(try rfl);done));(focus(simp only[push_cast,seval];(try rfl);done));(focus(simp only[push_cast,seval];(try rfl);done));(focus(simp only[push_cast,seval];(try rfl);done));(focus(first|exact uB))))|(((with_reducible apply go.of);(focus(first|(dsimp only;done)));(focus((intro _;repeat'(first|with_reducible exact iY|with_reducible refine di ?_|with_reducible refine gi ?_|((with_reducible refine jB ?_);intro _)|((with_reducible refine jC ?_);intro _)))));(intro s o hm;first|unfold a8|unfold a_);rotate_left;intro s hm))|(((apply dt;(repeat'(first|with_reducible exact bS|with_reducible exact bT|with_reducible apply bi|with_reducible apply c8|((with_reducible apply ck);(focus(first|(simp only[push_cast,seval];rfl)));(focus((repeat'(first|rfl));done)))|((with_reducible apply gj);(focus(first|(simp only[push_cast,seval];rfl)));(first|with_reducible exact bk rfl))));done))))
noncomputable def bt (x0:List ac) (x1:Int) (x2:Int) (f3:FuncId) (c3:List DV) (p3:ac->ac->Option (Int)) (h3:∀ a0 a1 r,p3 a0 a1=some r->ae Tryz.prog f3 ([.agg (ab a0),.agg (ab a1)]++c3) (.int .i64 r)):Option ((Unit)×(List ac)):=(pG x0 x1 x2 f3 c3 p3 h3).1
theorem ez (x0:List ac) (x1:Int) (x2:Int) (f3:FuncId) (c3:List DV) (p3:ac->ac->Option (Int)) (h3:∀ a0 a1 r,p3 a0 a1=some r->ae Tryz.prog f3 ([.agg (ab a0),.agg (ab a1)]++c3) (.int .i64 r)):∀ r,bt x0 x1 x2 f3 c3 p3 h3=some r->bI Tryz.prog 136 (.own (.sl 69 (List.replicate 2 .sh)) (.slice (List.map ab x0))::(List.map SV.d ([.int .i64 x1,.int .i64 x2,.fn f3 c3]:List DV))) (.tup []) (.own (.sl 69 (List.replicate 2 .sh)) (.slice (List.map ab r.2))::(List.map SV.d ([.int .i64 x1,.int .i64 x2,.fn f3 c3]:List DV))):=(pG x0 x1 x2 f3 c3 p3 h3).2
def bu:SC:=
 (.seq (.seq (.reg [.r 11 (.mv (.t 10)),
   .r 12 (.mv (.t 3)),
   .r 13 (.bin .lss (.t 11) (.t 12))])
 (.cond (.t 13)
  .skip
  (.exit 0)))
 (.seq (.block 1 (.regE [.r 16 (.mv (.t 0)),
    .r 17 (.mv (.t 1)),
    .r 18 (.mv (.t 10)),
    .r 19 (.bin .add (.t 17) (.t 18)),
    .r 20 (.mv (.t 0)),
    .r 21 (.mv (.t 2)),
    .r 22 (.mv (.t 10)),
    .r 23 (.bin .add (.t 21) (.t 22)),
    .r 24 (.mv (.t 0)),
    .r 25 (.mv (.t 2)),
    .r 26 (.mv (.t 10)),
    .r 27 (.bin .add (.t 25) (.t 26)),
    .r 28 (.idx 2 (.t 24) (.t 27)),
    .r 29 (.ldA 2 (.t 28)),
    .r 30 (.mv (.t 0)),
    .r 31 (.mv (.t 1)),
    .r 32 (.mv (.t 10)),
    .r 33 (.bin .add (.t 31) (.t 32)),
    .r 34 (.idx 2 (.t 30) (.t 33)),
    .r 35 (.ldA 2 (.t 34)),
    .r 36 (.idx 2 (.t 16) (.t 19)),
    .x 0 (.st 2 (.t 36) (.t 29)) [(4,20,.mv (.t 0)),(5,21,.mv (.t 2)),(6,22,.mv (.t 10)),(7,23,.bin .add (.t 21) (.t 22))],
    .r 37 (.idx 2 (.t 20) (.t 23)),
    .x 0 (.st 2 (.t 37) (.t 35)) []]))
 (.reg [.r 14 (.mv (.t 10)),
   .r 15 (.bin .add (.t 14) (.c (.d (.int .i64 1)))),
   .r 10 (.mv (.t 15))])))
def cq:SC:= .block 0 (.loop bu)
def cJ:SC:=
 (.seq (.reg [.r 10 (.mv (.c (.d (.int .i64 0))))])
 cq)
theorem e8:fits Tryz.prog 182 Tryz.f182 cJ [] 5=true:=oK
set_option maxRecDepth 100000 in
set_option maxHeartbeats 40000000 in
noncomputable def pH:(∀ (x0:List ac) (x1:Int) (x2:Int) (x3:Int) (f4:FuncId) (c4:List DV) (p4:ac->ac->Option (Int)) (h4:∀ a0 a1 r,p4 a0 a1=some r->ae Tryz.prog f4 ([.agg (ab a0),.agg (ab a1)]++c4) (.int .i64 r)),{m:Option ((Unit)×(List ac))//∀ r,m=some r->bI Tryz.prog 182 (.own (.sl 69 (List.replicate 2 .sh)) (.slice (List.map ab x0))::(List.map SV.d ([.int .i64 x1,.int .i64 x2,.int .i64 x3,.fn f4 c4]:List DV))) (.tup []) (.own (.sl 69 (List.replicate 2 .sh)) (.slice (List.map ab r.2))::(List.map SV.d ([.int .i64 x1,.int .i64 x2,.int .i64 x3,.fn f4 c4]:List DV)))}):=by
 (intro x0 x1 x2 x3 f4 c4 p4 h4;apply Subtype.mk;intro r hm;apply hD (N:=38) (k:=5) Tryz.func182 e8 oK rfl (jx (row:=ab) (n:=2) (fun _=>rfl) x0) rfl oD;unfold cJ)
 repeat'(first|with_reducible refine d6 ?_|with_reducible refine dL ?_|with_reducible refine nI ?_|with_reducible refine cd ?_|with_reducible refine cG ?_|with_reducible refine d8 ?_|with_reducible refine dM ?_|with_reducible refine d7 ?_|with_reducible refine d9 ?_|with_reducible refine cg ?_|((with_reducible apply rZ hm);(iterate 3 (simp only[push_cast,seval];rfl));intro e hm)|((with_reducible apply j1);(simp only[push_cast,seval];rfl);(first|exact trivial))|((with_reducible apply vb hm);(iterate 2 (simp only[push_cast,seval];rfl));(intro _;rfl);intro e hm)|((with_reducible apply B8 hm);(iterate 3 (simp only[push_cast,seval];rfl));rfl;(intro _;rfl);rfl;(focus(intro a;simp only[push_cast,seval];rfl));(focus(intro a;(repeat'(first|rfl));done));(focus(intro _;(repeat'(first|exact eC|((with_reducible apply fc);(focus(simp only[push_cast,seval];rfl));(focus(first|exact trivial));(focus(simp only[push_cast,seval])))));done));intro e hm)|((with_reducible apply cj hm);(simp only[push_cast,seval];rfl);intro hm;rotate_left;intro hm)|((with_reducible apply dZ hm);intro r hm)|((apply aF (b:=0) (X:=cq) (x:=bu) rfl (fun(c:SV×SV×SV×SV×SV×SV×SV) (s:(List ac)×Int)=>st [(0,.vec 0),(1,c.1),(2,c.2.1),(3,c.2.2.1),(10,.d (.int .i64 s.2)),(38,.vec 0),(39,c.2.2.2.1),(40,c.2.2.2.2.1),(41,c.2.2.2.2.2.1),(42,c.2.2.2.2.2.2)] [(0,.vec 69 2 (bH ab s.1))]) (c:=(_,_,_,_,_,_,_)) (s0:=(_,_)) hm);(focus(first|(dsimp only;done)));(with_reducible refine dP.mk ?_ ?_))|((apply ea (s':=(_,_)) hm);(focus(first|(dsimp only;done))))|((apply fU (s':=(_,_)) hm);(focus(first|(dsimp only;done))))|(((with_reducible apply lp hm (a:=()));(focus(exact ce.refl _));(focus(simp only[push_cast,seval];(try rfl);done));(focus((repeat'(first|(with_reducible first|apply k0)));done));(focus(intro _;rfl));(focus(simp only[push_cast,seval];(try rfl);done));(focus(simp only[push_cast,seval];(try rfl);done));(focus(simp only[push_cast,seval];(try rfl);done));(focus(simp only[push_cast,seval];(try rfl);done));(focus(first|exact uB))))|(((with_reducible apply go.of);(focus(first|(dsimp only;done)));(focus((intro _;repeat'(first|with_reducible exact iY))));(intro s o hm;first|unfold bu);rotate_left;intro s hm))|(((apply dt;(repeat'(first|with_reducible exact bS|with_reducible exact bT|with_reducible apply bi|with_reducible apply c8|((with_reducible apply ck);(focus(first|(simp only[push_cast,seval];rfl)));(focus((repeat'(first|rfl));done)))|((with_reducible apply gj);(focus(first|(simp only[push_cast,seval];rfl)));(first|with_reducible exact bk rfl))));done))))
noncomputable def bR (x0:List ac) (x1:Int) (x2:Int) (x3:Int) (f4:FuncId) (c4:List DV) (p4:ac->ac->Option (Int)) (h4:∀ a0 a1 r,p4 a0 a1=some r->ae Tryz.prog f4 ([.agg (ab a0),.agg (ab a1)]++c4) (.int .i64 r)):Option ((Unit)×(List ac)):=(pH x0 x1 x2 x3 f4 c4 p4 h4).1
theorem eX (x0:List ac) (x1:Int) (x2:Int) (x3:Int) (f4:FuncId) (c4:List DV) (p4:ac->ac->Option (Int)) (h4:∀ a0 a1 r,p4 a0 a1=some r->ae Tryz.prog f4 ([.agg (ab a0),.agg (ab a1)]++c4) (.int .i64 r)):∀ r,bR x0 x1 x2 x3 f4 c4 p4 h4=some r->bI Tryz.prog 182 (.own (.sl 69 (List.replicate 2 .sh)) (.slice (List.map ab x0))::(List.map SV.d ([.int .i64 x1,.int .i64 x2,.int .i64 x3,.fn f4 c4]:List DV))) (.tup []) (.own (.sl 69 (List.replicate 2 .sh)) (.slice (List.map ab r.2))::(List.map SV.d ([.int .i64 x1,.int .i64 x2,.int .i64 x3,.fn f4 c4]:List DV))):=(pH x0 x1 x2 x3 f4 c4 p4 h4).2
def bL:SC:=
 (.seq (.seq (.reg [.r 18 (.mv (.t 10)),
   .r 19 (.mv (.t 11)),
   .r 20 (.bin .neq (.t 18) (.t 19))])
 (.cond (.t 20)
  .skip
  (.exit 0)))
 (.block 1 (.seq (.reg [.r 21 (.mv (.t 10)),
    .r 22 (.mv (.t 11)),
    .r 23 (.bin .gtr (.t 21) (.t 22))])
  (.cond (.t 23)
   (.seq (.reg [.r 24 (.mv (.t 0)),
     .r 25 (.mv (.t 2)),
     .r 26 (.mv (.t 10)),
     .r 27 (.bin .sub (.t 25) (.t 26)),
     .r 28 (.mv (.t 2)),
     .r 29 (.mv (.t 11)),
     .r 30 (.mv (.t 4)),
     .p (some 31) (.f 182) [.t 24,.t 27,.t 28,.t 29,.t 30]])
   (.reg [.r 32 (.mv (.t 10)),
     .r 33 (.mv (.t 11)),
     .r 34 (.bin .sub (.t 32) (.t 33)),
     .r 10 (.mv (.t 34))]))
   (.seq (.reg [.r 35 (.mv (.t 0)),
     .r 36 (.mv (.t 2)),
     .r 37 (.mv (.t 10)),
     .r 38 (.bin .sub (.t 36) (.t 37)),
     .r 39 (.mv (.t 2)),
     .r 40 (.mv (.t 11)),
     .r 41 (.bin .add (.t 39) (.t 40)),
     .r 42 (.mv (.t 10)),
     .r 43 (.bin .sub (.t 41) (.t 42)),
     .r 44 (.mv (.t 10)),
     .r 45 (.mv (.t 4)),
     .p (some 46) (.f 182) [.t 35,.t 38,.t 43,.t 44,.t 45]])
   (.reg [.r 47 (.mv (.t 11)),
     .r 48 (.mv (.t 10)),
     .r 49 (.bin .sub (.t 47) (.t 48)),
     .r 11 (.mv (.t 49))]))))))
def cK:SC:= .block 0 (.loop bL)
def dp:SC:=
 (.seq (.reg [.r 12 (.mv (.t 2)),
   .r 13 (.mv (.t 1)),
   .r 14 (.bin .sub (.t 12) (.t 13)),
   .r 10 (.mv (.t 14))])
 (.seq (.reg [.r 15 (.mv (.t 3)),
   .r 16 (.mv (.t 2)),
   .r 17 (.bin .sub (.t 15) (.t 16)),
   .r 11 (.mv (.t 17))])
 (.seq cK
 (.reg [.r 50 (.mv (.t 0)),
   .r 51 (.mv (.t 2)),
   .r 52 (.mv (.t 10)),
   .r 53 (.bin .sub (.t 51) (.t 52)),
   .r 54 (.mv (.t 2)),
   .r 55 (.mv (.t 10)),
   .r 56 (.mv (.t 4)),
   .p (some 57) (.f 182) [.t 50,.t 53,.t 54,.t 55,.t 56]]))))
theorem fO:fits Tryz.prog 162 Tryz.f162 dp [] 5=true:=oK
set_option maxRecDepth 100000 in
set_option maxHeartbeats 40000000 in
noncomputable def pI:(∀ (x0:List ac) (x1:Int) (x2:Int) (x3:Int) (f4:FuncId) (c4:List DV) (p4:ac->ac->Option (Int)) (h4:∀ a0 a1 r,p4 a0 a1=some r->ae Tryz.prog f4 ([.agg (ab a0),.agg (ab a1)]++c4) (.int .i64 r)),{m:Option ((Unit)×(List ac))//∀ r,m=some r->bI Tryz.prog 162 (.own (.sl 69 (List.replicate 2 .sh)) (.slice (List.map ab x0))::(List.map SV.d ([.int .i64 x1,.int .i64 x2,.int .i64 x3,.fn f4 c4]:List DV))) (.tup []) (.own (.sl 69 (List.replicate 2 .sh)) (.slice (List.map ab r.2))::(List.map SV.d ([.int .i64 x1,.int .i64 x2,.int .i64 x3,.fn f4 c4]:List DV)))}):=by
 (intro x0 x1 x2 x3 f4 c4 p4 h4;apply Subtype.mk;intro r hm;apply hD (N:=58) (k:=5) Tryz.func162 fO oK rfl (jx (row:=ab) (n:=2) (fun _=>rfl) x0) rfl oD;unfold dp)
 repeat'(first|with_reducible refine d6 ?_|with_reducible refine dL ?_|with_reducible refine cd ?_|with_reducible refine cG ?_|with_reducible refine d8 ?_|with_reducible refine dM ?_|with_reducible refine d7 ?_|with_reducible refine d9 ?_|with_reducible refine cg ?_|((with_reducible apply j1);(simp only[push_cast,seval];rfl);(first|exact trivial))|((with_reducible apply cj hm);(simp only[push_cast,seval];rfl);intro hm;rotate_left;intro hm)|((with_reducible apply dZ hm);intro r hm)|((apply aF (b:=0) (X:=cK) (x:=bL) rfl (fun(c:SV×SV×SV×SV×SV×SV) (s:(List ac)×Int×Int)=>st [(0,.vec 0),(2,c.1),(4,c.2.1),(10,.d (.int .i64 s.2.1)),(11,.d (.int .i64 s.2.2)),(58,.vec 0),(59,c.2.2.1),(60,c.2.2.2.1),(61,c.2.2.2.2.1),(62,c.2.2.2.2.2)] [(0,.vec 69 2 (bH ab s.1))]) (c:=(_,_,_,_,_,_)) (s0:=(_,_,_)) hm);(focus(first|(dsimp only;done)));(with_reducible refine dP.mk ?_ ?_))|((apply ea (s':=(_,_,_)) hm);(focus(first|(dsimp only;done))))|((apply fU (s':=(_,_,_)) hm);(focus(first|(dsimp only;done))))|(((with_reducible apply qY hm);(focus(simp only[push_cast,seval];(try rfl);done));(focus(simp only[push_cast,seval];(try rfl);done));(focus(simp only[push_cast,seval];(try rfl);done));(focus(intro _;rfl));(focus(first|apply eX _ _ _ _ _ _ _ h4));(any_goals(focus((repeat'(first|rfl));done)));(focus(intro _;exact⟨rfl,rfl⟩));intro y hm))|(((with_reducible apply lp hm (a:=()));(focus(exact ce.refl _));(focus(simp only[push_cast,seval];(try rfl);done));(focus((repeat'(first|(with_reducible first|apply k0)));done));(focus(intro _;rfl));(focus(simp only[push_cast,seval];(try rfl);done));(focus(simp only[push_cast,seval];(try rfl);done));(focus(simp only[push_cast,seval];(try rfl);done));(focus(simp only[push_cast,seval];(try rfl);done));(focus(first|exact uB))))|(((with_reducible apply go.of);(focus(first|(dsimp only;done)));(focus((intro _;repeat'(first|with_reducible exact iY|with_reducible refine di ?_))));(intro s o hm;first|unfold bL);rotate_left;intro s hm))|(((apply dt;(repeat'(first|with_reducible exact bS|with_reducible exact bT|with_reducible apply bi|with_reducible apply c8|((with_reducible apply ck);(focus(first|(simp only[push_cast,seval];rfl)));(focus((repeat'(first|rfl));done)))|((with_reducible apply gj);(focus(first|(simp only[push_cast,seval];rfl)));(first|with_reducible exact bk rfl))));done))))
noncomputable def bY (x0:List ac) (x1:Int) (x2:Int) (x3:Int) (f4:FuncId) (c4:List DV) (p4:ac->ac->Option (Int)) (h4:∀ a0 a1 r,p4 a0 a1=some r->ae Tryz.prog f4 ([.agg (ab a0),.agg (ab a1)]++c4) (.int .i64 r)):Option ((Unit)×(List ac)):=(pI x0 x1 x2 x3 f4 c4 p4 h4).1
theorem fG (x0:List ac) (x1:Int) (x2:Int) (x3:Int) (f4:FuncId) (c4:List DV) (p4:ac->ac->Option (Int)) (h4:∀ a0 a1 r,p4 a0 a1=some r->ae Tryz.prog f4 ([.agg (ab a0),.agg (ab a1)]++c4) (.int .i64 r)):∀ r,bY x0 x1 x2 x3 f4 c4 p4 h4=some r->bI Tryz.prog 162 (.own (.sl 69 (List.replicate 2 .sh)) (.slice (List.map ab x0))::(List.map SV.d ([.int .i64 x1,.int .i64 x2,.int .i64 x3,.fn f4 c4]:List DV))) (.tup []) (.own (.sl 69 (List.replicate 2 .sh)) (.slice (List.map ab r.2))::(List.map SV.d ([.int .i64 x1,.int .i64 x2,.int .i64 x3,.fn f4 c4]:List DV))):=(pI x0 x1 x2 x3 f4 c4 p4 h4).2
def bx:SC:=
 (.seq (.seq (.reg [.r 31 (.mv (.t 10)),
   .r 32 (.mv (.t 11)),
   .r 33 (.bin .lss (.t 31) (.t 32))])
 (.cond (.t 33)
  .skip
  (.exit 0)))
 (.block 1 (.seq (.reg [.r 34 (.mv (.t 10)),
    .r 35 (.mv (.t 11)),
    .r 36 (.bin .add (.t 34) (.t 35)),
    .r 37 (.cvi .u64 (.t 36)),
    .r 38 (.bin .shr (.t 37) (.c (.d (.int .u64 1)))),
    .r 39 (.cvi .i64 (.t 38)),
    .r 12 (.mv (.t 39))])
  (.seq (.regD [.r 40 (.mv (.t 4)),
    .r 41 (.mv (.t 0)),
    .r 42 (.mv (.t 12)),
    .r 43 (.idx 2 (.t 41) (.t 42)),
    .r 44 (.ldA 2 (.t 43)),
    .r 45 (.mv (.t 0)),
    .r 46 (.mv (.t 1)),
    .r 47 (.idx 2 (.t 45) (.t 46)),
    .r 48 (.ldA 2 (.t 47)),
    .c 49 (.t 40) [.t 44,.t 48],
    .r 50 (.bin .lss (.t 49) (.c (.d (.int .i64 0))))])
  (.cond (.t 50)
   (.reg [.r 51 (.mv (.t 12)),
     .r 52 (.bin .add (.t 51) (.c (.d (.int .i64 1)))),
     .r 10 (.mv (.t 52))])
   (.reg [.r 53 (.mv (.t 12)),
     .r 11 (.mv (.t 53))]))))))
def cu:SC:= .block 0 (.loop bx)
def bz:SC:=
 (.seq (.seq (.reg [.r 55 (.mv (.t 13)),
   .r 56 (.mv (.t 10)),
   .r 57 (.bin .sub (.t 56) (.c (.d (.int .i64 1)))),
   .r 58 (.bin .lss (.t 55) (.t 57))])
 (.cond (.t 58)
  .skip
  (.exit 2)))
 (.seq (.block 3 (.regE [.r 61 (.mv (.t 0)),
    .r 62 (.mv (.t 13)),
    .r 63 (.mv (.t 0)),
    .r 64 (.mv (.t 13)),
    .r 65 (.bin .add (.t 64) (.c (.d (.int .i64 1)))),
    .r 66 (.mv (.t 0)),
    .r 67 (.mv (.t 13)),
    .r 68 (.bin .add (.t 67) (.c (.d (.int .i64 1)))),
    .r 69 (.idx 2 (.t 66) (.t 68)),
    .r 70 (.ldA 2 (.t 69)),
    .r 71 (.mv (.t 0)),
    .r 72 (.mv (.t 13)),
    .r 73 (.idx 2 (.t 71) (.t 72)),
    .r 74 (.ldA 2 (.t 73)),
    .r 75 (.idx 2 (.t 61) (.t 62)),
    .x 0 (.st 2 (.t 75) (.t 70)) [(2,63,.mv (.t 0)),(3,64,.mv (.t 13)),(4,65,.bin .add (.t 64) (.c (.d (.int .i64 1))))],
    .r 76 (.idx 2 (.t 63) (.t 65)),
    .x 0 (.st 2 (.t 76) (.t 74)) []]))
 (.reg [.r 59 (.mv (.t 13)),
   .r 60 (.bin .add (.t 59) (.c (.d (.int .i64 1)))),
   .r 13 (.mv (.t 60))])))
def cv:SC:= .block 2 (.loop bz)
def bA:SC:=
 (.seq (.seq (.reg [.r 83 (.mv (.t 14)),
   .r 84 (.mv (.t 15)),
   .r 85 (.bin .lss (.t 83) (.t 84))])
 (.cond (.t 85)
  .skip
  (.exit 4)))
 (.block 5 (.seq (.reg [.r 86 (.mv (.t 14)),
    .r 87 (.mv (.t 15)),
    .r 88 (.bin .add (.t 86) (.t 87)),
    .r 89 (.cvi .u64 (.t 88)),
    .r 90 (.bin .shr (.t 89) (.c (.d (.int .u64 1)))),
    .r 91 (.cvi .i64 (.t 90)),
    .r 16 (.mv (.t 91))])
  (.seq (.regD [.r 92 (.mv (.t 4)),
    .r 93 (.mv (.t 0)),
    .r 94 (.mv (.t 2)),
    .r 95 (.idx 2 (.t 93) (.t 94)),
    .r 96 (.ldA 2 (.t 95)),
    .r 97 (.mv (.t 0)),
    .r 98 (.mv (.t 16)),
    .r 99 (.idx 2 (.t 97) (.t 98)),
    .r 100 (.ldA 2 (.t 99)),
    .c 101 (.t 92) [.t 96,.t 100],
    .r 102 (.bin .lss (.t 101) (.c (.d (.int .i64 0)))),
    .r 103 (.not (.t 102))])
  (.cond (.t 103)
   (.reg [.r 104 (.mv (.t 16)),
     .r 105 (.bin .add (.t 104) (.c (.d (.int .i64 1)))),
     .r 14 (.mv (.t 105))])
   (.reg [.r 106 (.mv (.t 16)),
     .r 15 (.mv (.t 106))]))))))
def cw:SC:= .block 4 (.loop bA)
def bB:SC:=
 (.seq (.seq (.reg [.r 108 (.mv (.t 17)),
   .r 109 (.mv (.t 14)),
   .r 110 (.bin .gtr (.t 108) (.t 109))])
 (.cond (.t 110)
  .skip
  (.exit 6)))
 (.seq (.block 7 (.regE [.r 113 (.mv (.t 0)),
    .r 114 (.mv (.t 17)),
    .r 115 (.mv (.t 0)),
    .r 116 (.mv (.t 17)),
    .r 117 (.bin .sub (.t 116) (.c (.d (.int .i64 1)))),
    .r 118 (.mv (.t 0)),
    .r 119 (.mv (.t 17)),
    .r 120 (.bin .sub (.t 119) (.c (.d (.int .i64 1)))),
    .r 121 (.idx 2 (.t 118) (.t 120)),
    .r 122 (.ldA 2 (.t 121)),
    .r 123 (.mv (.t 0)),
    .r 124 (.mv (.t 17)),
    .r 125 (.idx 2 (.t 123) (.t 124)),
    .r 126 (.ldA 2 (.t 125)),
    .r 127 (.idx 2 (.t 113) (.t 114)),
    .x 0 (.st 2 (.t 127) (.t 122)) [(2,115,.mv (.t 0)),(3,116,.mv (.t 17)),(4,117,.bin .sub (.t 116) (.c (.d (.int .i64 1))))],
    .r 128 (.idx 2 (.t 115) (.t 117)),
    .x 0 (.st 2 (.t 128) (.t 126)) []]))
 (.reg [.r 111 (.mv (.t 17)),
   .r 112 (.bin .sub (.t 111) (.c (.d (.int .i64 1)))),
   .r 17 (.mv (.t 112))])))
def cx:SC:= .block 6 (.loop bB)
def bC:SC:=
 (.seq (.seq (.reg [.r 149 (.mv (.t 20)),
   .r 150 (.mv (.t 21)),
   .r 151 (.bin .lss (.t 149) (.t 150))])
 (.cond (.t 151)
  .skip
  (.exit 8)))
 (.block 9 (.seq (.reg [.r 152 (.mv (.t 20)),
    .r 153 (.mv (.t 21)),
    .r 154 (.bin .add (.t 152) (.t 153)),
    .r 155 (.cvi .u64 (.t 154)),
    .r 156 (.bin .shr (.t 155) (.c (.d (.int .u64 1)))),
    .r 157 (.cvi .i64 (.t 156)),
    .r 23 (.mv (.t 157))])
  (.seq (.regD [.r 158 (.mv (.t 4)),
    .r 159 (.mv (.t 0)),
    .r 160 (.mv (.t 22)),
    .r 161 (.mv (.t 23)),
    .r 162 (.bin .sub (.t 160) (.t 161)),
    .r 163 (.idx 2 (.t 159) (.t 162)),
    .r 164 (.ldA 2 (.t 163)),
    .r 165 (.mv (.t 0)),
    .r 166 (.mv (.t 23)),
    .r 167 (.idx 2 (.t 165) (.t 166)),
    .r 168 (.ldA 2 (.t 167)),
    .c 169 (.t 158) [.t 164,.t 168],
    .r 170 (.bin .lss (.t 169) (.c (.d (.int .i64 0)))),
    .r 171 (.not (.t 170))])
  (.cond (.t 171)
   (.reg [.r 172 (.mv (.t 23)),
     .r 173 (.bin .add (.t 172) (.c (.d (.int .i64 1)))),
     .r 20 (.mv (.t 173))])
   (.reg [.r 174 (.mv (.t 23)),
     .r 21 (.mv (.t 174))]))))))
def cy:SC:= .block 8 (.loop bC)
def cV:SC:=
 (.seq (.seq (.reg [.r 25 (.mv (.t 2)),
   .r 26 (.mv (.t 1)),
   .r 27 (.bin .sub (.t 25) (.t 26)),
   .r 28 (.bin .eql (.t 27) (.c (.d (.int .i64 1))))])
 (.cond (.t 28)
  (.seq (.reg [.r 29 (.mv (.t 2)),
    .r 10 (.mv (.t 29))])
  (.seq (.reg [.r 30 (.mv (.t 3)),
    .r 11 (.mv (.t 30))])
  (.seq cu
  (.seq (.seq (.reg [.r 54 (.mv (.t 1)),
    .r 13 (.mv (.t 54))])
  cv)
  .ret))))
  .skip))
 (.seq (.seq (.reg [.r 77 (.mv (.t 3)),
   .r 78 (.mv (.t 2)),
   .r 79 (.bin .sub (.t 77) (.t 78)),
   .r 80 (.bin .eql (.t 79) (.c (.d (.int .i64 1))))])
 (.cond (.t 80)
  (.seq (.reg [.r 81 (.mv (.t 1)),
    .r 14 (.mv (.t 81))])
  (.seq (.reg [.r 82 (.mv (.t 2)),
    .r 15 (.mv (.t 82))])
  (.seq cw
  (.seq (.seq (.reg [.r 107 (.mv (.t 2)),
    .r 17 (.mv (.t 107))])
  cx)
  .ret))))
  .skip))
 (.seq (.reg [.r 129 (.mv (.t 1)),
   .r 130 (.mv (.t 3)),
   .r 131 (.bin .add (.t 129) (.t 130)),
   .r 132 (.cvi .u64 (.t 131)),
   .r 133 (.bin .shr (.t 132) (.c (.d (.int .u64 1)))),
   .r 134 (.cvi .i64 (.t 133)),
   .r 18 (.mv (.t 134))])
 (.seq (.reg [.r 135 (.mv (.t 18)),
   .r 136 (.mv (.t 2)),
   .r 137 (.bin .add (.t 135) (.t 136)),
   .r 19 (.mv (.t 137))])
 (.seq (.reg [.r 20 (.mv (.c (.d (.int .i64 0)))),
   .r 21 (.mv (.c (.d (.int .i64 0))))])
 (.seq (.seq (.reg [.r 138 (.mv (.t 2)),
   .r 139 (.mv (.t 18)),
   .r 140 (.bin .gtr (.t 138) (.t 139))])
 (.cond (.t 140)
  (.seq (.reg [.r 141 (.mv (.t 19)),
    .r 142 (.mv (.t 3)),
    .r 143 (.bin .sub (.t 141) (.t 142)),
    .r 20 (.mv (.t 143))])
  (.reg [.r 144 (.mv (.t 18)),
    .r 21 (.mv (.t 144))]))
  (.seq (.reg [.r 145 (.mv (.t 1)),
    .r 20 (.mv (.t 145))])
  (.reg [.r 146 (.mv (.t 2)),
    .r 21 (.mv (.t 146))]))))
 (.seq (.reg [.r 147 (.mv (.t 19)),
   .r 148 (.bin .sub (.t 147) (.c (.d (.int .i64 1)))),
   .r 22 (.mv (.t 148))])
 (.seq cy
 (.seq (.reg [.r 175 (.mv (.t 19)),
   .r 176 (.mv (.t 20)),
   .r 177 (.bin .sub (.t 175) (.t 176)),
   .r 24 (.mv (.t 177))])
 (.seq (.seq (.reg (.r 178 (.mv (.t 20)):: .r 179 (.mv (.t 2)):: .r 180 (.bin .lss (.t 178) (.t 179)):: .r 181 (.mv (.t 180))::cD [182,183,184] 181 true (.r 182 (.mv (.t 2)):: .r 183 (.mv (.t 24)):: .r 184 (.bin .lss (.t 182) (.t 183))::[]) (.r 185 (.pick (.t 181) (.t 184) (.c (.d (.bool false))))::[])))
 (.cond (.t 185)
  (.reg [.r 186 (.mv (.t 0)),
    .r 187 (.mv (.t 20)),
    .r 188 (.mv (.t 2)),
    .r 189 (.mv (.t 24)),
    .r 190 (.mv (.t 4)),
    .p (some 191) (.f 162) [.t 186,.t 187,.t 188,.t 189,.t 190]])
  .skip))
 (.seq (.seq (.reg (.r 192 (.mv (.t 1)):: .r 193 (.mv (.t 20)):: .r 194 (.bin .lss (.t 192) (.t 193)):: .r 195 (.mv (.t 194))::cD [196,197,198] 195 true (.r 196 (.mv (.t 20)):: .r 197 (.mv (.t 18)):: .r 198 (.bin .lss (.t 196) (.t 197))::[]) (.r 199 (.pick (.t 195) (.t 198) (.c (.d (.bool false))))::[])))
 (.cond (.t 199)
  (.reg [.r 200 (.mv (.t 0)),
    .r 201 (.mv (.t 1)),
    .r 202 (.mv (.t 20)),
    .r 203 (.mv (.t 18)),
    .r 204 (.mv (.t 4)),
    .p (some 205) (.f 137) [.t 200,.t 201,.t 202,.t 203,.t 204]])
  .skip))
 (.seq (.reg (.r 206 (.mv (.t 18)):: .r 207 (.mv (.t 24)):: .r 208 (.bin .lss (.t 206) (.t 207)):: .r 209 (.mv (.t 208))::cD [210,211,212] 209 true (.r 210 (.mv (.t 24)):: .r 211 (.mv (.t 3)):: .r 212 (.bin .lss (.t 210) (.t 211))::[]) (.r 213 (.pick (.t 209) (.t 212) (.c (.d (.bool false))))::[])))
 (.cond (.t 213)
  (.reg [.r 214 (.mv (.t 0)),
    .r 215 (.mv (.t 18)),
    .r 216 (.mv (.t 24)),
    .r 217 (.mv (.t 3)),
    .r 218 (.mv (.t 4)),
    .p (some 219) (.f 137) [.t 214,.t 215,.t 216,.t 217,.t 218]])
  .skip)))))))))))))
theorem ft:fits Tryz.prog 137 Tryz.f137 cV [] 5=true:=oK
set_option maxRecDepth 100000 in
set_option maxHeartbeats 40000000 in
noncomputable def pJ:((∀ (x0:List ac) (x1:Int) (x2:Int) (x3:Int) (f4:FuncId) (c4:List DV) (p4:ac->ac->Option (Int)) (h4:∀ a0 a1 r,p4 a0 a1=some r->ae Tryz.prog f4 ([.agg (ab a0),.agg (ab a1)]++c4) (.int .i64 r)),{m:Option ((Unit)×(List ac))//∀ r,m=some r->bI Tryz.prog 137 (.own (.sl 69 (List.replicate 2 .sh)) (.slice (List.map ab x0))::(List.map SV.d ([.int .i64 x1,.int .i64 x2,.int .i64 x3,.fn f4 c4]:List DV))) (.tup []) (.own (.sl 69 (List.replicate 2 .sh)) (.slice (List.map ab r.2))::(List.map SV.d ([.int .i64 x1,.int .i64 x2,.int .i64 x3,.fn f4 c4]:List DV)))}))->((∀ (x0:List ac) (x1:Int) (x2:Int) (x3:Int) (f4:FuncId) (c4:List DV) (p4:ac->ac->Option (Int)) (h4:∀ a0 a1 r,p4 a0 a1=some r->ae Tryz.prog f4 ([.agg (ab a0),.agg (ab a1)]++c4) (.int .i64 r)),{m:Option ((Unit)×(List ac))//∀ r,m=some r->bI Tryz.prog 137 (.own (.sl 69 (List.replicate 2 .sh)) (.slice (List.map ab x0))::(List.map SV.d ([.int .i64 x1,.int .i64 x2,.int .i64 x3,.fn f4 c4]:List DV))) (.tup []) (.own (.sl 69 (List.replicate 2 .sh)) (.slice (List.map ab r.2))::(List.map SV.d ([.int .i64 x1,.int .i64 x2,.int .i64 x3,.fn f4 c4]:List DV)))})):=by
 intro ih
 have bE:∀ (x0:List ac) (x1:Int) (x2:Int) (x3:Int) (f4:FuncId) (c4:List DV) (p4:ac->ac->Option (Int)) (h4:∀ a0 a1 r,p4 a0 a1=some r->ae Tryz.prog f4 ([.agg (ab a0),.agg (ab a1)]++c4) (.int .i64 r)),∀ r,(ih x0 x1 x2 x3 f4 c4 p4 h4).1=some r->bI Tryz.prog 137 (.own (.sl 69 (List.replicate 2 .sh)) (.slice (List.map ab x0))::(List.map SV.d ([.int .i64 x1,.int .i64 x2,.int .i64 x3,.fn f4 c4]:List DV))) (.tup []) (.own (.sl 69 (List.replicate 2 .sh)) (.slice (List.map ab r.2))::(List.map SV.d ([.int .i64 x1,.int .i64 x2,.int .i64 x3,.fn f4 c4]:List DV))):=fun x0 x1 x2 x3 f4 c4 p4 h4=>(ih x0 x1 x2 x3 f4 c4 p4 h4).2
 (intro x0 x1 x2 x3 f4 c4 p4 h4;apply Subtype.mk;intro r hm;apply hD (N:=220) (k:=5) Tryz.func137 ft oK rfl (jx (row:=ab) (n:=2) (fun _=>rfl) x0) rfl oD;unfold cV)
 repeat'(first|with_reducible refine d6 ?_|with_reducible refine dL ?_|with_reducible refine ii ?_|with_reducible refine nI ?_|with_reducible refine cd ?_|with_reducible refine cG ?_|with_reducible refine fL ?_|with_reducible refine d8 ?_|with_reducible refine dM ?_|with_reducible refine d7 ?_|with_reducible refine d9 ?_|with_reducible refine eO ?_|with_reducible refine cg ?_|((with_reducible apply rZ hm);(iterate 3 (simp only[push_cast,seval];rfl));intro e hm)|((with_reducible apply j1);(simp only[push_cast,seval];rfl);(first|exact trivial))|((with_reducible apply vb hm);(iterate 2 (simp only[push_cast,seval];rfl));(intro _;rfl);intro e hm)|((with_reducible apply JP hm);(iterate 2 (simp only[push_cast,seval];rfl));intro hm)|((with_reducible apply oW hm);(simp only[push_cast,seval];rfl);rfl;intro v hm;rotate_left;intro v g hm)|((with_reducible apply Ft hm);(iterate 2 (simp only[push_cast,seval];rfl));(focus(first|exact h4 _ _));intro x hm)|((with_reducible apply B8 hm);(iterate 3 (simp only[push_cast,seval];rfl));rfl;(intro _;rfl);rfl;(focus(intro a;simp only[push_cast,seval];rfl));(focus(intro a;(repeat'(first|rfl));done));(focus(intro _;(repeat'(first|exact eC|((with_reducible apply fc);(focus(simp only[push_cast,seval];rfl));(focus(first|exact trivial));(focus(simp only[push_cast,seval])))));done));intro e hm)|((with_reducible apply cj hm);(simp only[push_cast,seval];rfl);intro hm;rotate_left;intro hm)|((with_reducible apply gT hm);(simp only[push_cast,seval];rfl))|((with_reducible apply dZ hm);intro r hm)|((apply aF (b:=0) (X:=cu) (x:=bx) rfl (fun(c:Ch×SV×SV×SV×SV×SV×SV) (s:Int×Int)=>st [(0,.vec 0),(1,c.2.1),(4,c.2.2.1),(10,.d (.int .i64 s.1)),(11,.d (.int .i64 s.2)),(220,.vec 0),(221,c.2.2.2.1),(222,c.2.2.2.2.1),(223,c.2.2.2.2.2.1),(224,c.2.2.2.2.2.2)] [(0,c.1)]) (c:=(_,_,_,_,_,_,_)) (s0:=(_,_)) hm);(focus(first|(dsimp only;done)));(with_reducible refine dP.mk ?_ ?_))|((apply aF (b:=2) (X:=cv) (x:=bz) rfl (fun(c:SV×SV×SV×SV×SV) (s:(List ac)×Int)=>st [(0,.vec 0),(10,c.1),(13,.d (.int .i64 s.2)),(220,.vec 0),(221,c.2.1),(222,c.2.2.1),(223,c.2.2.2.1),(224,c.2.2.2.2)] [(0,.vec 69 2 (bH ab s.1))]) (c:=(_,_,_,_,_)) (s0:=(_,_)) hm);(focus(first|(dsimp only;done)));(with_reducible refine dP.mk ?_ ?_))|((apply aF (b:=4) (X:=cw) (x:=bA) rfl (fun(c:Ch×SV×SV×SV×SV×SV×SV) (s:Int×Int)=>st [(0,.vec 0),(2,c.2.1),(4,c.2.2.1),(14,.d (.int .i64 s.1)),(15,.d (.int .i64 s.2)),(220,.vec 0),(221,c.2.2.2.1),(222,c.2.2.2.2.1),(223,c.2.2.2.2.2.1),(224,c.2.2.2.2.2.2)] [(0,c.1)]) (c:=(_,_,_,_,_,_,_)) (s0:=(_,_)) hm);(focus(first|(dsimp only;done)));(with_reducible refine dP.mk ?_ ?_))|((apply aF (b:=6) (X:=cx) (x:=bB) rfl (fun(c:SV×SV×SV×SV×SV) (s:(List ac)×Int)=>st [(0,.vec 0),(14,c.1),(17,.d (.int .i64 s.2)),(220,.vec 0),(221,c.2.1),(222,c.2.2.1),(223,c.2.2.2.1),(224,c.2.2.2.2)] [(0,.vec 69 2 (bH ab s.1))]) (c:=(_,_,_,_,_)) (s0:=(_,_)) hm);(focus(first|(dsimp only;done)));(with_reducible refine dP.mk ?_ ?_))|((apply aF (b:=8) (X:=cy) (x:=bC) rfl (fun(c:Ch×SV×SV×SV×SV×SV×SV×SV×SV×SV×SV×SV) (s:Int×Int)=>st [(0,.vec 0),(1,c.2.1),(2,c.2.2.1),(3,c.2.2.2.1),(4,c.2.2.2.2.1),(18,c.2.2.2.2.2.1),(19,c.2.2.2.2.2.2.1),(20,.d (.int .i64 s.1)),(21,.d (.int .i64 s.2)),(22,c.2.2.2.2.2.2.2.1),(220,.vec 0),(221,c.2.2.2.2.2.2.2.2.1),(222,c.2.2.2.2.2.2.2.2.2.1),(223,c.2.2.2.2.2.2.2.2.2.2.1),(224,c.2.2.2.2.2.2.2.2.2.2.2)] [(0,c.1)]) (c:=(_,_,_,_,_,_,_,_,_,_,_,_)) (s0:=(_,_)) hm);(focus(first|(dsimp only;done)));(with_reducible refine dP.mk ?_ ?_))|((apply ea (s':=(_,_)) hm);(focus(first|(dsimp only;done))))|((apply fU (s':=(_,_)) hm);(focus(first|(dsimp only;done))))|(((with_reducible apply qY hm);(focus(simp only[push_cast,seval];(try rfl);done));(focus(simp only[push_cast,seval];(try rfl);done));(focus(simp only[push_cast,seval];(try rfl);done));(focus(intro _;rfl));(focus(first|apply fG _ _ _ _ _ _ _ h4));(any_goals(focus((repeat'(first|rfl));done)));(focus(intro _;exact⟨rfl,rfl⟩));intro y hm))|(((with_reducible apply qY hm);(focus(simp only[push_cast,seval];(try rfl);done));(focus(simp only[push_cast,seval];(try rfl);done));(focus(simp only[push_cast,seval];(try rfl);done));(focus(intro _;rfl));(focus(first|apply bE _ _ _ _ _ _ _ h4));(any_goals(focus((repeat'(first|rfl));done)));(focus(intro _;exact⟨rfl,rfl⟩));intro y hm))|(((with_reducible apply Fj hm (a:=()));(focus(exact ce.refl _));(focus(simp only[push_cast,seval];(try rfl);done));(focus((repeat'(first|(with_reducible first|apply k0)));done));(focus(intro _;rfl));(focus(simp only[push_cast,seval];(try rfl);done));(focus(simp only[push_cast,seval];(try rfl);done));(focus(simp only[push_cast,seval];(try rfl);done));(focus(simp only[push_cast,seval];(try rfl);done));(focus(first|exact uB))))|(((with_reducible apply lp hm (a:=()));(focus(exact ce.refl _));(focus(simp only[push_cast,seval];(try rfl);done));(focus((repeat'(first|(with_reducible first|apply k0)));done));(focus(intro _;rfl));(focus(simp only[push_cast,seval];(try rfl);done));(focus(simp only[push_cast,seval];(try rfl);done));(focus(simp only[push_cast,seval];(try rfl);done));(focus(simp only[push_cast,seval];(try rfl);done));(focus(first|exact uB))))|(((with_reducible apply go.of);(focus(first|(dsimp only;done)));(focus((intro _;repeat'(first|with_reducible exact iY|with_reducible refine di ?_))));(intro s o hm;first|unfold bx|unfold bz|unfold bA|unfold bB|unfold bC);rotate_left;intro s hm))|(((apply dt;(repeat'(first|with_reducible exact bS|with_reducible exact bT|with_reducible apply bi|with_reducible apply c8|((with_reducible apply ck);(focus(first|(simp only[push_cast,seval];rfl)));(focus((repeat'(first|rfl));done)))|((with_reducible apply gj);(focus(first|(simp only[push_cast,seval];rfl)));(first|with_reducible exact bk rfl))));done))))
noncomputable def mr (fu:Nat):(∀ (x0:List ac) (x1:Int) (x2:Int) (x3:Int) (f4:FuncId) (c4:List DV) (p4:ac->ac->Option (Int)) (h4:∀ a0 a1 r,p4 a0 a1=some r->ae Tryz.prog f4 ([.agg (ab a0),.agg (ab a1)]++c4) (.int .i64 r)),{m:Option ((Unit)×(List ac))//∀ r,m=some r->bI Tryz.prog 137 (.own (.sl 69 (List.replicate 2 .sh)) (.slice (List.map ab x0))::(List.map SV.d ([.int .i64 x1,.int .i64 x2,.int .i64 x3,.fn f4 c4]:List DV))) (.tup []) (.own (.sl 69 (List.replicate 2 .sh)) (.slice (List.map ab r.2))::(List.map SV.d ([.int .i64 x1,.int .i64 x2,.int .i64 x3,.fn f4 c4]:List DV)))}):=Nat.rec (fun x0 x1 x2 x3 f4 c4 p4 h4=>⟨none,fun r h=>by cases h⟩) (fun _ ih=>pJ ih) fu
noncomputable def aM (fu:Nat) (x0:List ac) (x1:Int) (x2:Int) (x3:Int) (f4:FuncId) (c4:List DV) (p4:ac->ac->Option (Int)) (h4:∀ a0 a1 r,p4 a0 a1=some r->ae Tryz.prog f4 ([.agg (ab a0),.agg (ab a1)]++c4) (.int .i64 r)):Option ((Unit)×(List ac)):=((mr fu) x0 x1 x2 x3 f4 c4 p4 h4).1
theorem eR (x0:List ac) (x1:Int) (x2:Int) (x3:Int) (f4:FuncId) (c4:List DV) (p4:ac->ac->Option (Int)) (h4:∀ a0 a1 r,p4 a0 a1=some r->ae Tryz.prog f4 ([.agg (ab a0),.agg (ab a1)]++c4) (.int .i64 r)):aM 0 x0 x1 x2 x3 f4 c4 p4 h4=none:=rfl
theorem eS (fu:Nat) (x0:List ac) (x1:Int) (x2:Int) (x3:Int) (f4:FuncId) (c4:List DV) (p4:ac->ac->Option (Int)) (h4:∀ a0 a1 r,p4 a0 a1=some r->ae Tryz.prog f4 ([.agg (ab a0),.agg (ab a1)]++c4) (.int .i64 r)):((mr fu) x0 x1 x2 x3 f4 c4 p4 h4).1=aM fu x0 x1 x2 x3 f4 c4 p4 h4:=rfl
theorem eT (fu:Nat) (x0:List ac) (x1:Int) (x2:Int) (x3:Int) (f4:FuncId) (c4:List DV) (p4:ac->ac->Option (Int)) (h4:∀ a0 a1 r,p4 a0 a1=some r->ae Tryz.prog f4 ([.agg (ab a0),.agg (ab a1)]++c4) (.int .i64 r)):aM (fu+1) x0 x1 x2 x3 f4 c4 p4 h4=((pJ (mr fu)) x0 x1 x2 x3 f4 c4 p4 h4).1:=rfl
theorem bE (fu:Nat) (x0:List ac) (x1:Int) (x2:Int) (x3:Int) (f4:FuncId) (c4:List DV) (p4:ac->ac->Option (Int)) (h4:∀ a0 a1 r,p4 a0 a1=some r->ae Tryz.prog f4 ([.agg (ab a0),.agg (ab a1)]++c4) (.int .i64 r)):∀ r,aM fu x0 x1 x2 x3 f4 c4 p4 h4=some r->bI Tryz.prog 137 (.own (.sl 69 (List.replicate 2 .sh)) (.slice (List.map ab x0))::(List.map SV.d ([.int .i64 x1,.int .i64 x2,.int .i64 x3,.fn f4 c4]:List DV))) (.tup []) (.own (.sl 69 (List.replicate 2 .sh)) (.slice (List.map ab r.2))::(List.map SV.d ([.int .i64 x1,.int .i64 x2,.int .i64 x3,.fn f4 c4]:List DV))):=((mr fu) x0 x1 x2 x3 f4 c4 p4 h4).2
def bM:SC:=
 (.seq (.seq (.reg [.r 11 (.mv (.t 8)),
   .r 12 (.mv (.t 1)),
   .r 13 (.bin .leq (.t 11) (.t 12))])
 (.cond (.t 13)
  .skip
  (.exit 0)))
 (.block 1 (.seq (.reg [.r 14 (.mv (.t 0)),
    .r 15 (.mv (.t 7)),
    .r 16 (.mv (.t 8)),
    .r 17 (.mv (.t 2)),
    .p (some 18) (.f 136) [.t 14,.t 15,.t 16,.t 17]])
  (.seq (.reg [.r 19 (.mv (.t 8)),
    .r 7 (.mv (.t 19))])
  (.reg [.r 20 (.mv (.t 8)),
    .r 21 (.mv (.t 6)),
    .r 22 (.bin .add (.t 20) (.t 21)),
    .r 8 (.mv (.t 22))])))))
def cL:SC:= .block 0 (.loop bM)
def bN:SC:=
 (.seq (.seq (.reg [.r 33 (.mv (.t 8)),
   .r 34 (.mv (.t 1)),
   .r 35 (.bin .leq (.t 33) (.t 34))])
 (.cond (.t 35)
  .skip
  (.exit 4)))
 (.block 5 (.seq (.reg [.r 36 (.mv (.t 0)),
    .r 37 (.mv (.t 7)),
    .r 38 (.mv (.t 7)),
    .r 39 (.mv (.t 6)),
    .r 40 (.bin .add (.t 38) (.t 39)),
    .r 41 (.mv (.t 8)),
    .r 42 (.mv (.t 2)),
    .p (some 43) (.f 137) [.t 36,.t 37,.t 40,.t 41,.t 42]])
  (.seq (.reg [.r 44 (.mv (.t 8)),
    .r 7 (.mv (.t 44))])
  (.reg [.r 45 (.mv (.t 8)),
    .r 46 (.mv (.t 6)),
    .r 47 (.bin .mul (.c (.d (.int .i64 2))) (.t 46)),
    .r 48 (.bin .add (.t 45) (.t 47)),
    .r 8 (.mv (.t 48))])))))
def cM:SC:= .block 4 (.loop bN)
def bO:SC:=
 (.seq (.seq (.reg [.r 28 (.mv (.t 6)),
   .r 29 (.mv (.t 1)),
   .r 30 (.bin .lss (.t 28) (.t 29))])
 (.cond (.t 30)
  .skip
  (.exit 2)))
 (.block 3 (.seq (.reg [.r 31 (.mv (.t 6)),
    .r 32 (.bin .mul (.c (.d (.int .i64 2))) (.t 31)),
    .r 7 (.mv (.c (.d (.int .i64 0)))),
    .r 8 (.mv (.t 32))])
  (.seq cM
  (.seq (.seq (.reg [.r 49 (.mv (.t 7)),
    .r 50 (.mv (.t 6)),
    .r 51 (.bin .add (.t 49) (.t 50)),
    .r 9 (.mv (.t 51))])
  (.seq (.reg [.r 52 (.mv (.t 9)),
    .r 53 (.mv (.t 1)),
    .r 54 (.bin .lss (.t 52) (.t 53))])
  (.cond (.t 54)
   (.reg [.r 55 (.mv (.t 0)),
     .r 56 (.mv (.t 7)),
     .r 57 (.mv (.t 9)),
     .r 58 (.mv (.t 1)),
     .r 59 (.mv (.t 2)),
     .p (some 60) (.f 137) [.t 55,.t 56,.t 57,.t 58,.t 59]])
   .skip)))
  (.reg [.r 61 (.mv (.t 6)),
    .r 62 (.bin .mul (.t 61) (.c (.d (.int .i64 2)))),
    .r 6 (.mv (.t 62))]))))))
def cN:SC:= .block 2 (.loop bO)
def dq:SC:=
 (.seq (.reg [.r 6 (.mv (.c (.d (.int .i64 20))))])
 (.seq (.reg [.r 10 (.mv (.t 6)),
   .r 7 (.mv (.c (.d (.int .i64 0)))),
   .r 8 (.mv (.t 10))])
 (.seq cL
 (.seq (.reg [.r 23 (.mv (.t 0)),
   .r 24 (.mv (.t 7)),
   .r 25 (.mv (.t 1)),
   .r 26 (.mv (.t 2)),
   .p (some 27) (.f 136) [.t 23,.t 24,.t 25,.t 26]])
 cN))))
theorem fP:fits Tryz.prog 96 Tryz.f96 dq [] 3=true:=oK
set_option maxRecDepth 100000 in
set_option maxHeartbeats 40000000 in
noncomputable def pK:(∀ (x0:List ac) (x1:Int) (f2:FuncId) (c2:List DV) (p2:ac->ac->Option (Int)) (h2:∀ a0 a1 r,p2 a0 a1=some r->ae Tryz.prog f2 ([.agg (ab a0),.agg (ab a1)]++c2) (.int .i64 r)),{m:Option ((Unit)×(List ac))//∀ r,m=some r->bI Tryz.prog 96 (.own (.sl 69 (List.replicate 2 .sh)) (.slice (List.map ab x0))::(List.map SV.d ([.int .i64 x1,.fn f2 c2]:List DV))) (.tup []) (.own (.sl 69 (List.replicate 2 .sh)) (.slice (List.map ab r.2))::(List.map SV.d ([.int .i64 x1,.fn f2 c2]:List DV)))}):=by
 (intro x0 x1 f2 c2 p2 h2;apply Subtype.mk;intro r hm;apply hD (N:=63) (k:=3) Tryz.func96 fP oK rfl (jx (row:=ab) (n:=2) (fun _=>rfl) x0) rfl oD;unfold dq)
 repeat'(first|with_reducible refine d6 ?_|with_reducible refine dL ?_|with_reducible refine cd ?_|with_reducible refine cG ?_|with_reducible refine d8 ?_|with_reducible refine dM ?_|with_reducible refine d7 ?_|with_reducible refine d9 ?_|with_reducible refine cg ?_|((with_reducible apply j1);(simp only[push_cast,seval];rfl);(first|exact trivial))|((with_reducible apply cj hm);(simp only[push_cast,seval];rfl);intro hm;rotate_left;intro hm)|((with_reducible apply dZ hm);intro r hm)|((apply aF (b:=0) (X:=cL) (x:=bM) rfl (fun(c:SV×SV×SV×SV×SV) (s:(List ac)×Int×Int)=>st [(0,.vec 0),(1,c.1),(2,c.2.1),(6,c.2.2.1),(7,.d (.int .i64 s.2.1)),(8,.d (.int .i64 s.2.2)),(63,.vec 0),(64,c.2.2.2.1),(65,c.2.2.2.2)] [(0,.vec 69 2 (bH ab s.1))]) (c:=(_,_,_,_,_)) (s0:=(_,_,_)) hm);(focus(first|(dsimp only;done)));(with_reducible refine dP.mk ?_ ?_))|((apply aF (b:=4) (X:=cM) (x:=bN) rfl (fun(c:SV×SV×SV×SV×SV) (s:(List ac)×Int×Int)=>st [(0,.vec 0),(1,c.1),(2,c.2.1),(6,c.2.2.1),(7,.d (.int .i64 s.2.1)),(8,.d (.int .i64 s.2.2)),(63,.vec 0),(64,c.2.2.2.1),(65,c.2.2.2.2)] [(0,.vec 69 2 (bH ab s.1))]) (c:=(_,_,_,_,_)) (s0:=(_,_,_)) hm);(focus(first|(dsimp only;done)));(with_reducible refine dP.mk ?_ ?_))|((apply aF (b:=2) (X:=cN) (x:=bO) rfl (fun(c:SV×SV×SV×SV) (s:(List ac)×Int)=>st [(0,.vec 0),(1,c.1),(2,c.2.1),(6,.d (.int .i64 s.2)),(63,.vec 0),(64,c.2.2.1),(65,c.2.2.2)] [(0,.vec 69 2 (bH ab s.1))]) (c:=(_,_,_,_)) (s0:=(_,_)) hm);(focus(first|(dsimp only;done)));(with_reducible refine dP.mk ?_ ?_))|((apply ea (s':=(_,_,_)) hm);(focus(first|(dsimp only;done))))|((apply fU (s':=(_,_,_)) hm);(focus(first|(dsimp only;done))))|((apply ea (s':=(_,_)) hm);(focus(first|(dsimp only;done))))|((apply fU (s':=(_,_)) hm);(focus(first|(dsimp only;done))))|(((with_reducible apply qY hm);(focus(simp only[push_cast,seval];(try rfl);done));(focus(simp only[push_cast,seval];(try rfl);done));(focus(simp only[push_cast,seval];(try rfl);done));(focus(intro _;rfl));(focus(first|apply ez _ _ _ _ _ _ h2));(any_goals(focus((repeat'(first|rfl));done)));(focus(intro _;exact⟨rfl,rfl⟩));intro y hm))|(((with_reducible apply qY hm);(focus(simp only[push_cast,seval];(try rfl);done));(focus(simp only[push_cast,seval];(try rfl);done));(focus(simp only[push_cast,seval];(try rfl);done));(focus(intro _;rfl));(focus(first|apply bE FU _ _ _ _ _ _ _ h2));(any_goals(focus((repeat'(first|rfl));done)));(focus(intro _;exact⟨rfl,rfl⟩));intro y hm))|(((with_reducible apply lp hm (a:=()));(focus(exact ce.refl _));(focus(simp only[push_cast,seval];(try rfl);done));(focus((repeat'(first|(with_reducible first|apply k0)));done));(focus(intro _;rfl));(focus(simp only[push_cast,seval];(try rfl);done));(focus(simp only[push_cast,seval];(try rfl);done));(focus(simp only[push_cast,seval];(try rfl);done));(focus(simp only[push_cast,seval];(try rfl);done));(focus(first|exact uB))))|(((with_reducible apply go.of);(focus(first|(dsimp only;done)));(focus((intro _;repeat'(first|with_reducible exact iY|with_reducible refine di ?_|with_reducible refine gi ?_|((with_reducible refine jB ?_);intro _)|((with_reducible refine jC ?_);intro _)))));(intro s o hm;first|unfold bM|unfold bN|unfold bO);rotate_left;intro s hm))|(((apply dt;(repeat'(first|with_reducible exact bS|with_reducible exact bT|with_reducible apply bi|with_reducible apply c8|((with_reducible apply ck);(focus(first|(simp only[push_cast,seval];rfl)));(focus((repeat'(first|rfl));done)))|((with_reducible apply gj);(focus(first|(simp only[push_cast,seval];rfl)));(first|with_reducible exact bk rfl))));done))))
noncomputable def bZ (x0:List ac) (x1:Int) (f2:FuncId) (c2:List DV) (p2:ac->ac->Option (Int)) (h2:∀ a0 a1 r,p2 a0 a1=some r->ae Tryz.prog f2 ([.agg (ab a0),.agg (ab a1)]++c2) (.int .i64 r)):Option ((Unit)×(List ac)):=(pK x0 x1 f2 c2 p2 h2).1
theorem fH (x0:List ac) (x1:Int) (f2:FuncId) (c2:List DV) (p2:ac->ac->Option (Int)) (h2:∀ a0 a1 r,p2 a0 a1=some r->ae Tryz.prog f2 ([.agg (ab a0),.agg (ab a1)]++c2) (.int .i64 r)):∀ r,bZ x0 x1 f2 c2 p2 h2=some r->bI Tryz.prog 96 (.own (.sl 69 (List.replicate 2 .sh)) (.slice (List.map ab x0))::(List.map SV.d ([.int .i64 x1,.fn f2 c2]:List DV))) (.tup []) (.own (.sl 69 (List.replicate 2 .sh)) (.slice (List.map ab r.2))::(List.map SV.d ([.int .i64 x1,.fn f2 c2]:List DV))):=(pK x0 x1 f2 c2 p2 h2).2
def bv:SC:=
 (.reg [.r 4 (.mv (.t 0)),
   .r 5 (.mv (.t 0)),
   .r 6 (.len (.t 5)),
   .r 7 (.mv (.t 1)),
   .p (some 8) (.f 96) [.t 4,.t 6,.t 7]])
theorem c5:fits Tryz.prog 55 Tryz.f55 bv [] 2=true:=oK
set_option maxRecDepth 100000 in
set_option maxHeartbeats 40000000 in
noncomputable def pL:(∀ (x0:List ac) (f1:FuncId) (c1:List DV) (p1:ac->ac->Option (Int)) (h1:∀ a0 a1 r,p1 a0 a1=some r->ae Tryz.prog f1 ([.agg (ab a0),.agg (ab a1)]++c1) (.int .i64 r)),{m:Option ((Unit)×(List ac))//∀ r,m=some r->bI Tryz.prog 55 (.own (.sl 69 (List.replicate 2 .sh)) (.slice (List.map ab x0))::(List.map SV.d ([.fn f1 c1]:List DV))) (.tup []) (.own (.sl 69 (List.replicate 2 .sh)) (.slice (List.map ab r.2))::(List.map SV.d ([.fn f1 c1]:List DV)))}):=by
 (intro x0 f1 c1 p1 h1;apply Subtype.mk;intro r hm;apply hD (N:=9) (k:=2) Tryz.func55 c5 oK rfl (jx (row:=ab) (n:=2) (fun _=>rfl) x0) rfl oD;unfold bv)
 repeat'(first|with_reducible refine dL ?_|with_reducible refine dM ?_|((with_reducible apply j1);(simp only[push_cast,seval];rfl);(first|exact trivial))|(((with_reducible apply qY hm);(focus(simp only[push_cast,seval];(try rfl);done));(focus(simp only[push_cast,seval];(try rfl);done));(focus(simp only[push_cast,seval];(try rfl);done));(focus(intro _;rfl));(focus(first|apply fH _ _ _ _ _ h1));(any_goals(focus((repeat'(first|rfl));done)));(focus(intro _;exact⟨rfl,rfl⟩));intro y hm))|(((with_reducible apply lp hm (a:=()));(focus(exact ce.refl _));(focus(simp only[push_cast,seval];(try rfl);done));(focus((repeat'(first|(with_reducible first|apply k0)));done));(focus(intro _;rfl));(focus(simp only[push_cast,seval];(try rfl);done));(focus(simp only[push_cast,seval];(try rfl);done));(focus(simp only[push_cast,seval];(try rfl);done));(focus(simp only[push_cast,seval];(try rfl);done));(focus(first|exact uB)))))
noncomputable def aS (x0:List ac) (f1:FuncId) (c1:List DV) (p1:ac->ac->Option (Int)) (h1:∀ a0 a1 r,p1 a0 a1=some r->ae Tryz.prog f1 ([.agg (ab a0),.agg (ab a1)]++c1) (.int .i64 r)):Option ((Unit)×(List ac)):=(pL x0 f1 c1 p1 h1).1
theorem cW (x0:List ac) (f1:FuncId) (c1:List DV) (p1:ac->ac->Option (Int)) (h1:∀ a0 a1 r,p1 a0 a1=some r->ae Tryz.prog f1 ([.agg (ab a0),.agg (ab a1)]++c1) (.int .i64 r)):∀ r,aS x0 f1 c1 p1 h1=some r->bI Tryz.prog 55 (.own (.sl 69 (List.replicate 2 .sh)) (.slice (List.map ab x0))::(List.map SV.d ([.fn f1 c1]:List DV))) (.tup []) (.own (.sl 69 (List.replicate 2 .sh)) (.slice (List.map ab r.2))::(List.map SV.d ([.fn f1 c1]:List DV))):=(pL x0 f1 c1 p1 h1).2
structure lu where
 fElement:Int
 fRepeat:Int
 fPart:Int
 deriving DecidableEq
def iP (x:lu):List DV:=[.int .i64 x.fElement,.int .i64 x.fRepeat,.int .i64 x.fPart]
attribute [push_cast] iP
theorem zK {d0 d1 d2:DV} {v0:Int} {v1:Int} {v2:Int} (h0:d0= .int .i64 v0) (h1:d1= .int .i64 v1) (h2:d2= .int .i64 v2):[d0,d1,d2]=iP ⟨v0,v1,v2⟩:=by unfold iP;simp only[h0,h1,h2,Lw,Lk,Lc,Lr]
def kj:SC:=
 (.seq (.reg [.r 11 (.bin .lss (.t 10) (.t 9))])
 (.seq (.cond (.t 11)
  .skip
  (.exit 0))
 (.seq (.block 1 (.seq (.reg [.r 12 (.idx 1 (.t 8) (.t 10)),
    .o 13 (.ldA 1 (.t 12)),
    .w 6 (.boxM (.c (.agg [.nils]))),
    .w 0 (.st 1 (.t 6) (.t 13))])
  (.seq (.seq (.reg (.r 14 (.fld 0 (.t 6)):: .o 15 (.ld1 (.t 14)):: .r 16 (.len (.t 15)):: .r 17 (.bin .neq (.t 16) (.c (.d (.int .i64 1)))):: .r 18 (.mv (.t 17))::cD [19,20,21,22,23,24] 18 false (.r 19 (.fld 0 (.t 6)):: .r 20 (.ld1 (.t 19)):: .r 21 (.idx 1 (.t 20) (.c (.d (.int .i64 0)))):: .r 22 (.ld1 (.t 21)):: .r 23 (.len (.t 22)):: .r 24 (.bin .neq (.t 23) (.c (.d (.int .i64 1))))::[]) (.r 25 (.pick (.t 18) (.c (.d (.bool true))) (.t 24))::[])))
  (.cond (.t 25)
   (.seq (.reg [.r 2 (.mv (.c (.nils))),
     .r 3 (.mv (.c (.d (.bool false))))])
   .ret)
   .skip))
  (.reg [.r 26 (.mv (.t 4)),
    .r 27 (.fld 0 (.t 6)),
    .o 28 (.ld1 (.t 27)),
    .r 29 (.idx 1 (.t 28) (.c (.d (.int .i64 0)))),
    .o 30 (.ld1 (.t 29)),
    .r 31 (.idx 1 (.t 30) (.c (.d (.int .i64 0)))),
    .o 32 (.ld1 (.t 31)),
    .r 33 (.bslice 1 [.t 32]),
    .w 34 (.app 9 1 (.t 26) (.t 33)),
    .r 4 (.mv (.t 34))]))))
 (.reg [.r 35 (.bin .add (.t 10) (.c (.d (.int .i64 1)))),
   .r 10 (.mv (.t 35))]))))
def no:SC:= .block 0 (.loop kj)
def qz:SC:=
 (.seq (.reg [.r 1 (.boxI (.t 0)),
   .r 2 (.mv (.c (.nils))),
   .r 3 (.mv (.c (.d (.bool false))))])
 (.seq (.reg [.r 4 (.mv (.c (.nils)))])
 (.seq (.seq (.reg [.r 7 (.fld 1 (.t 1)),
   .o 8 (.ld1 (.t 7)),
   .r 9 (.len (.t 8)),
   .r 10 (.mv (.c (.d (.int .i64 0))))])
 no)
 (.seq (.reg [.r 36 (.mv (.t 4)),
   .r 2 (.mv (.t 36)),
   .r 3 (.mv (.c (.d (.bool true))))])
 .ret))))
theorem wI:fits Tryz.prog 58 Tryz.f58 qz [.t 2,.t 3] 1=true:=oK
def sn:SC:=
 (.seq (.reg [.r 2 (.mv (.c (.d (.bool false))))])
 (.seq (.reg (.r 3 (.mv (.t 0)):: .r 4 (.lenT (.t 3)):: .r 5 (.bin .geq (.t 4) (.c (.d (.int .i64 1)))):: .r 6 (.mv (.t 5))::cD [7,8,9] 6 true (.r 7 (.mv (.t 0)):: .r 8 (.lenT (.t 7)):: .r 9 (.bin .leq (.t 8) (.c (.d (.int .i64 14))))::[]) (.r 10 (.pick (.t 6) (.t 9) (.c (.d (.bool false)))):: .r 11 (.mv (.t 10))::cD [12,13,14] 11 true (.r 12 (.mv (.t 0)):: .c 13 (.f 81) [.t 12,.c (.d (.str [65,66,67,68,69,70,71,72,73,74,75,76,77,78,79,80,81,82,83,84,85,86,87,88,89,90,48,49,50,51,52,53,54,55,56,57,45]))]:: .r 14 (.bin .eql (.t 13) (.c (.d (.str []))))::[]) (.r 15 (.pick (.t 11) (.t 14) (.c (.d (.bool false)))):: .r 2 (.mv (.t 15))::[]))))
 .ret))
theorem xH:fits Tryz.prog 36 Tryz.f36 sn [.t 2] 1=true:=oK
def qA:SC:=
 (.seq (.reg [.r 2 (.mv (.c (.d (.bool false))))])
 (.seq (.seq (.reg (.r 3 (.mv (.t 0)):: .r 4 (.lenT (.t 3)):: .r 5 (.bin .lss (.t 4) (.c (.d (.int .i64 1)))):: .r 6 (.mv (.t 5))::cD [7,8,9] 6 false (.r 7 (.mv (.t 0)):: .r 8 (.lenT (.t 7)):: .r 9 (.bin .gtr (.t 8) (.c (.d (.int .i64 40))))::[]) (.r 10 (.pick (.t 6) (.c (.d (.bool true))) (.t 9)):: .r 11 (.mv (.t 10))::cD [12,13,14] 11 false (.r 12 (.mv (.t 0)):: .r 13 (.sidx (.t 12) (.c (.d (.int .i64 0)))):: .r 14 (.bin .lss (.t 13) (.c (.d (.int .u8 97))))::[]) (.r 15 (.pick (.t 11) (.c (.d (.bool true))) (.t 14)):: .r 16 (.mv (.t 15))::cD [17,18,19] 16 false (.r 17 (.mv (.t 0)):: .r 18 (.sidx (.t 17) (.c (.d (.int .i64 0)))):: .r 19 (.bin .gtr (.t 18) (.c (.d (.int .u8 122))))::[]) (.r 20 (.pick (.t 16) (.c (.d (.bool true))) (.t 19))::[])))))
 (.cond (.t 20)
  (.seq (.reg [.r 2 (.mv (.c (.d (.bool false))))])
  .ret)
  .skip))
 (.seq (.reg [.r 21 (.mv (.t 0)),
   .c 22 (.f 81) [.t 21,.c (.d (.str [97,98,99,100,101,102,103,104,105,106,107,108,109,110,111,112,113,114,115,116,117,118,119,120,121,122,48,49,50,51,52,53,54,55,56,57,45]))],
   .r 23 (.bin .eql (.t 22) (.c (.d (.str [])))),
   .r 2 (.mv (.t 23))])
 .ret)))
theorem wJ:fits Tryz.prog 37 Tryz.f37 qA [.t 2] 1=true:=oK
def oe:SC:=
 (.seq (.reg [.r 2 (.mv (.c (.d (.bool false))))])
 (.seq (.reg (.r 3 (.mv (.t 0)):: .r 4 (.bin .neq (.t 3) (.c (.d (.str [])))):: .r 5 (.mv (.t 4))::cD [6,7] 5 true (.r 6 (.mv (.t 0)):: .c 7 (.f 129) [.t 6,.c (.d (.int .u8 48)),.c (.d (.int .u8 57))]::[]) (.r 8 (.pick (.t 5) (.t 7) (.c (.d (.bool false)))):: .r 2 (.mv (.t 8))::[])))
 .ret))
theorem tx:fits Tryz.prog 135 Tryz.f135 oe [.t 2] 1=true:=oK
def pq:SC:=
 (.seq (.reg [.r 6 (.mv (.c (.d (.bool false))))])
 (.seq (.reg (.r 7 (.mv (.t 0)):: .r 8 (.mv (.t 1)):: .r 9 (.bin .lss (.t 7) (.t 8)):: .r 10 (.mv (.t 9))::cD [11,12,13] 10 false (.r 11 (.mv (.t 0)):: .r 12 (.mv (.t 2)):: .r 13 (.bin .gtr (.t 11) (.t 12))::[]) (.r 14 (.pick (.t 10) (.c (.d (.bool true))) (.t 13)):: .r 6 (.mv (.t 14))::[])))
 .ret))
theorem uK:fits Tryz.prog 39 Tryz.f39 pq [.t 6] 3=true:=oK
def pr:SC:=
 (.seq (.reg [.r 2 (.boxI (.t 0)),
   .r 3 (.boxI (.t 1)),
   .r 4 (.mv (.c (.d (.str [])))),
   .r 5 (.mv (.c (.d (.bool false))))])
 (.seq (.seq (.reg [.r 7 (.fld 0 (.t 3)),
   .o 8 (.ld1 (.t 7)),
   .r 9 (.fld 1 (.t 2)),
   .o 10 (.ld1 (.t 9)),
   .r 11 (.len (.t 10)),
   .r 12 (.bin .gtr (.t 8) (.t 11))])
 (.cond (.t 12)
  (.seq (.reg [.r 4 (.mv (.c (.d (.str [])))),
    .r 5 (.mv (.c (.d (.bool false))))])
  .ret)
  .skip))
 (.seq (.reg [.r 13 (.fld 1 (.t 2)),
   .o 14 (.ld1 (.t 13)),
   .r 15 (.fld 0 (.t 3)),
   .o 16 (.ld1 (.t 15)),
   .r 17 (.bin .sub (.t 16) (.c (.d (.int .i64 1)))),
   .r 18 (.idx 1 (.t 14) (.t 17)),
   .r 19 (.fld 0 (.t 18)),
   .o 20 (.ld1 (.t 19)),
   .r 6 (.mv (.t 20))])
 (.seq (.seq (.regD (.r 21 (.fld 1 (.t 3)):: .r 22 (.ld1 (.t 21)):: .r 23 (.mv (.t 6)):: .r 24 (.len (.t 23)):: .r 25 (.bin .gtr (.t 22) (.t 24)):: .r 26 (.mv (.t 25))::cD [27,28,29,30,31,32,33,34,35,36] 26 false (.r 27 (.fld 2 (.t 3)):: .r 28 (.ld1 (.t 27)):: .r 29 (.mv (.t 6)):: .r 30 (.fld 1 (.t 3)):: .r 31 (.ld1 (.t 30)):: .r 32 (.bin .sub (.t 31) (.c (.d (.int .i64 1)))):: .r 33 (.idx 1 (.t 29) (.t 32)):: .r 34 (.ld1 (.t 33)):: .r 35 (.len (.t 34)):: .r 36 (.bin .gtr (.t 28) (.t 35))::[]) (.r 37 (.pick (.t 26) (.c (.d (.bool true))) (.t 36))::[])))
 (.cond (.t 37)
  (.seq (.reg [.r 4 (.mv (.c (.d (.str [])))),
    .r 5 (.mv (.c (.d (.bool false))))])
  .ret)
  .skip))
 (.seq (.regD [.r 38 (.mv (.t 6)),
   .r 39 (.fld 1 (.t 3)),
   .r 40 (.ld1 (.t 39)),
   .r 41 (.bin .sub (.t 40) (.c (.d (.int .i64 1)))),
   .r 42 (.idx 1 (.t 38) (.t 41)),
   .r 43 (.ld1 (.t 42)),
   .r 44 (.fld 2 (.t 3)),
   .r 45 (.ld1 (.t 44)),
   .r 46 (.bin .sub (.t 45) (.c (.d (.int .i64 1)))),
   .r 47 (.idx 1 (.t 43) (.t 46)),
   .r 48 (.ld1 (.t 47)),
   .r 4 (.mv (.t 48)),
   .r 5 (.mv (.c (.d (.bool true))))])
 .ret)))))
theorem uL:fits Tryz.prog 134 Tryz.f134 pr [.t 4,.t 5] 2=true:=oK
def qB:SC:=
 (.seq (.reg [.r 0 (.mv (.c (.nils)))])
 (.seq (.reg [.r 1 (.bslice 1 [.c (.d (.str [73,72,68])),.c (.d (.str [71,72,68])),.c (.d (.str [77,72,68]))]),
   .r 0 (.mv (.t 1))])
 .ret))
theorem wK:fits Tryz.prog 49 Tryz.f49 qB [.t 0] 0=true:=oK
def qC:SC:=
 (.seq (.reg [.r 0 (.mv (.c (.nils)))])
 (.seq (.reg [.r 1 (.bslice 1 [.c (.d (.str [73,84,82])),.c (.d (.str [71,84,82])),.c (.d (.str [77,84,82]))]),
   .r 0 (.mv (.t 1))])
 .ret))
theorem wL:fits Tryz.prog 51 Tryz.f51 qC [.t 0] 0=true:=oK
set_option maxRecDepth 100000 in
set_option maxHeartbeats 40000000 in
noncomputable def aR:(∀ (x0:aa),{m:Option ((List (List UInt8))×Bool)//∀ r,m=some r->ae Tryz.prog 58 [.agg (af x0)] (.tup [.slice (List.map dB r.1),.bool r.2])})×(∀ (x0:List UInt8),{m:Option (Bool)//∀ r,m=some r->ae Tryz.prog 36 [.str x0] (.bool r)})×(∀ (x0:List UInt8),{m:Option (Bool)//∀ r,m=some r->ae Tryz.prog 37 [.str x0] (.bool r)})×(∀ (x0:List UInt8),{m:Option (Bool)//∀ r,m=some r->ae Tryz.prog 135 [.str x0] (.bool r)})×(∀ (x0:Int) (x1:Int) (x2:Int),{m:Option (Bool)//∀ r,m=some r->ae Tryz.prog 39 [.int .i64 x0,.int .i64 x1,.int .i64 x2] (.bool r)})×(∀ (x0:aa) (x1:lu),{m:Option ((List UInt8)×Bool)//∀ r,m=some r->ae Tryz.prog 134 [.agg (af x0),.agg (iP x1)] (.tup [.str r.1,.bool r.2])})×({m:Option ((List (List UInt8)))//∀ r,m=some r->ae Tryz.prog 49 [] (.slice (List.map dB r))})×({m:Option ((List (List UInt8)))//∀ r,m=some r->ae Tryz.prog 51 [] (.slice (List.map dB r))}):=by
 refine⟨?g0, ?g1, ?g2, ?g3, ?g4, ?g5, ?g6, ?g7⟩
 case' g0=>(intro x0;apply Subtype.mk;intro r hm;apply az Tryz.func58 wI;unfold qz)
 case' g1=>(intro x0;apply Subtype.mk;intro r hm;apply az Tryz.func36 xH;unfold sn)
 case' g2=>(intro x0;apply Subtype.mk;intro r hm;apply az Tryz.func37 wJ;unfold qA)
 case' g3=>(intro x0;apply Subtype.mk;intro r hm;apply az Tryz.func135 tx;unfold oe)
 case' g4=>(intro x0 x1 x2;apply Subtype.mk;intro r hm;apply az Tryz.func39 uK;unfold pq)
 case' g5=>(intro x0 x1;apply Subtype.mk;intro r hm;apply az Tryz.func134 uL;unfold pr)
 case' g6=>(apply Subtype.mk;intro r hm;apply az Tryz.func49 wK;unfold qB)
 case' g7=>(apply Subtype.mk;intro r hm;apply az Tryz.func51 wL;unfold qC)
 all_goals(repeat'(first|with_reducible refine d6 ?_|with_reducible refine dL ?_|with_reducible refine ii ?_|with_reducible refine cd ?_|with_reducible refine cG ?_|with_reducible refine fL ?_|with_reducible refine d8 ?_|with_reducible refine dM ?_|with_reducible refine d7 ?_|with_reducible refine d9 ?_|with_reducible refine eO ?_|with_reducible refine cg ?_|with_reducible refine eh ?_|with_reducible refine fV ?_|((with_reducible apply gy hm);(iterate 2 (simp only[push_cast,seval];rfl));(intro _;rfl);intro e hm)|((with_reducible apply va hm);(iterate 2 (simp only[push_cast,seval];rfl));intro e hm)|((with_reducible apply j1);(simp only[push_cast,seval];rfl);(first|exact trivial))|((with_reducible apply oW hm);(simp only[push_cast,seval];rfl);rfl;intro v hm;rotate_left;intro v g hm)|((with_reducible apply uz hm);(simp only[push_cast,seval];rfl);rfl;intro v hm;rotate_left;intro v g hm)|((with_reducible apply mb hm);(simp only[push_cast,seval];rfl);(first|apply mu _ _|apply ni _ _ _);(any_goals((repeat'(first|rfl|(with_reducible first|apply mC)|(with_reducible apply B7;decide)));done));intro x hm)|((with_reducible apply zg);(simp only[push_cast,seval];rfl);(first|exact trivial))|((with_reducible apply zF hm);(iterate 4 (simp only[push_cast,seval];rfl));(focus((repeat'(first|rfl|(with_reducible first|apply ew|apply ex|apply eL)));done));decide;(intro _;rfl);intro hm)|((with_reducible apply cj hm);(simp only[push_cast,seval];rfl);intro hm;rotate_left;intro hm)|((with_reducible apply wu hm);(focus(simp only[eN,jg,RV.get,push_cast,seval];rfl));(focus(first|(dsimp only;done)));(focus((repeat'(first|rfl|(with_reducible first|apply Fy|apply ew|apply mC|apply ex)));done)))|((with_reducible apply fT hm);(focus(simp only[eN,jg,RV.get,push_cast,seval];rfl));(focus((repeat'(first|rfl|(with_reducible first|apply ew|apply ex|apply eL)));done)))|((with_reducible apply gT hm);(simp only[push_cast,seval];rfl))|((with_reducible apply dZ hm);intro r hm)|((with_reducible apply gn hm);intro r hm)|((apply aF (b:=0) (X:=no) (x:=kj) rfl (fun(c:SV×SV) (s:(List (List UInt8))×Int)=>st [(4,.vec 4),(8,c.1),(9,c.2),(10,.d (.int .i64 s.2))] [(4,.vec 9 1 (bH dB s.1))]) (c:=(_,_)) (s0:=(_,_)) hm);(focus(first|(dsimp only;done)));(with_reducible refine dP.mk ?_ ?_);apply ce.trans;(focus(apply BS (slot:=4) (id:=4) (e:=9) (sz:=1);(focus(simp only[push_cast,seval];done)))))|((apply ea (s':=(_,_)) hm);(focus(first|(dsimp only;done))))|((apply fU (s':=(_,_)) hm);(focus(first|(dsimp only;done))))|(((with_reducible apply kQ hm);intro r hm))|(((with_reducible apply go.of);(focus(first|(dsimp only;done)));(focus((intro _;repeat'(first|with_reducible exact fd|with_reducible refine di ?_))));(intro s o hm;first|unfold kj);rotate_left;intro s hm))|(((apply dt;(repeat'(first|with_reducible exact bS|with_reducible exact bT|with_reducible apply bi|with_reducible apply c8|((with_reducible apply ck);(focus(first|(simp only[push_cast,seval];rfl)));(focus((repeat'(first|rfl));done)))|((with_reducible apply gj);(focus(first|(simp only[push_cast,seval];rfl)));(first|with_reducible exact bk rfl|with_reducible apply gU))|(with_reducible first|apply CP)));done)))))
noncomputable def lj (x0:aa):Option ((List (List UInt8))×Bool):=(aR.1 x0).1
theorem kW (x0:aa):∀ r,lj x0=some r->ae Tryz.prog 58 [.agg (af x0)] (.tup [.slice (List.map dB r.1),.bool r.2]):=(aR.1 x0).2
noncomputable def pu (x0:List UInt8):Option (Bool):=(aR.2.1 x0).1
theorem ga (x0:List UInt8):∀ r,pu x0=some r->ae Tryz.prog 36 [.str x0] (.bool r):=(aR.2.1 x0).2
noncomputable def nT (x0:List UInt8):Option (Bool):=(aR.2.2.1 x0).1
theorem iF (x0:List UInt8):∀ r,nT x0=some r->ae Tryz.prog 37 [.str x0] (.bool r):=(aR.2.2.1 x0).2
noncomputable def lS (x0:List UInt8):Option (Bool):=(aR.2.2.2.1 x0).1
theorem sq (x0:List UInt8):∀ r,lS x0=some r->ae Tryz.prog 135 [.str x0] (.bool r):=(aR.2.2.2.1 x0).2
noncomputable def iB (x0:Int) (x1:Int) (x2:Int):Option (Bool):=(aR.2.2.2.2.1 x0 x1 x2).1
theorem km (x0:Int) (x1:Int) (x2:Int):∀ r,iB x0 x1 x2=some r->ae Tryz.prog 39 [.int .i64 x0,.int .i64 x1,.int .i64 x2] (.bool r):=(aR.2.2.2.2.1 x0 x1 x2).2
noncomputable def qD (x0:aa) (x1:lu):Option ((List UInt8)×Bool):=(aR.2.2.2.2.2.1 x0 x1).1
theorem tz (x0:aa) (x1:lu):∀ r,qD x0 x1=some r->ae Tryz.prog 134 [.agg (af x0),.agg (iP x1)] (.tup [.str r.1,.bool r.2]):=(aR.2.2.2.2.2.1 x0 x1).2
noncomputable def jN:Option ((List (List UInt8))):=(aR.2.2.2.2.2.2.1).1
theorem kX:∀ r,jN=some r->ae Tryz.prog 49 [] (.slice (List.map dB r)):=(aR.2.2.2.2.2.2.1).2
noncomputable def jO:Option ((List (List UInt8))):=(aR.2.2.2.2.2.2.2).1
theorem og:∀ r,jO=some r->ae Tryz.prog 51 [] (.slice (List.map dB r)):=(aR.2.2.2.2.2.2.2).2
def qE:SC:=
 (.seq (.reg [.r 4 (.mv (.c (.d (.int .i64 0)))),
   .r 5 (.mv (.c (.d (.bool false))))])
 (.seq (.seq (.reg (.r 8 (.mv (.t 0)):: .r 9 (.lenT (.t 8)):: .r 10 (.mv (.t 1)):: .r 11 (.bin .gtr (.t 9) (.t 10)):: .r 12 (.mv (.t 11))::cD [13,14,15] 12 false (.r 13 (.mv (.t 0)):: .c 14 (.f 135) [.t 13]:: .r 15 (.not (.t 14))::[]) (.r 16 (.pick (.t 12) (.c (.d (.bool true))) (.t 15)):: .r 17 (.mv (.t 16))::cD [18,19,20,21,22,23,24,25] 17 false (.r 18 (.mv (.t 0)):: .r 19 (.lenT (.t 18)):: .r 20 (.bin .gtr (.t 19) (.c (.d (.int .i64 1)))):: .r 21 (.mv (.t 20))::cD [22,23,24] 21 true (.r 22 (.mv (.t 0)):: .r 23 (.sidx (.t 22) (.c (.d (.int .i64 0)))):: .r 24 (.bin .eql (.t 23) (.c (.d (.int .u8 48))))::[]) (.r 25 (.pick (.t 21) (.t 24) (.c (.d (.bool false))))::[])) (.r 26 (.pick (.t 17) (.c (.d (.bool true))) (.t 25))::[]))))
 (.cond (.t 26)
  (.seq (.reg [.r 4 (.mv (.c (.d (.int .i64 0)))),
    .r 5 (.mv (.c (.d (.bool false))))])
  .ret)
  .skip))
 (.seq (.reg [.r 28 (.mv (.t 0)),
   .c 29 (.f 59) [.t 28],
   .r 27 (.mv (.t 29)),
   .r 30 (.ext (.t 27) 0),
   .r 31 (.ext (.t 27) 1),
   .r 6 (.mv (.t 30)),
   .r 7 (.mv (.t 31))])
 (.seq (.regD [.r 32 (.mv (.t 6)),
   .r 33 (.mv (.t 7)),
   .r 34 (.binI .eql (.t 33) (.c (.d (.raw .nilIface)))),
   .r 4 (.mv (.t 32)),
   .r 5 (.mv (.t 34))])
 .ret))))
theorem wM:fits Tryz.prog 95 Tryz.f95 qE [.t 4,.t 5] 2=true:=oK
def sr:SC:=
 (.seq (.reg [.r 2 (.mv (.c (.d (.bool false))))])
 (.seq (.reg [.r 3 (.mv (.t 0)),
   .c 4 (.f 39) [.t 3,.c (.d (.int .i64 1)),.c (.d (.int .i64 3652059))],
   .r 5 (.not (.t 4)),
   .r 2 (.mv (.t 5))])
 .ret))
theorem xI:fits Tryz.prog 38 Tryz.f38 sr [.t 2] 1=true:=oK
def qF:SC:=
 (.seq (.reg [.r 1 (.boxI (.t 0)),
   .r 2 (.mv (.c (.d (.str []))))])
 (.seq (.reg [.o 6 (.ldA 2 (.t 1)),
   .r 7 (.build [.d (.int .i64 0),.d (.int .i64 0),.d (.int .i64 0)] [(0,1,.c (.d (.int .i64 1))),(1,1,.c (.d (.int .i64 1))),(2,1,.c (.d (.int .i64 1)))]),
   .c 8 (.f 134) [.t 6,.t 7],
   .r 5 (.mv (.t 8)),
   .r 9 (.ext (.t 5) 0),
   .r 10 (.ext (.t 5) 1),
   .r 3 (.mv (.t 9)),
   .r 4 (.mv (.t 10))])
 (.seq (.reg [.r 11 (.mv (.t 3)),
   .r 2 (.mv (.t 11))])
 .ret)))
theorem wN:fits Tryz.prog 92 Tryz.f92 qF [.t 2] 1=true:=oK
def pv:SC:=
 (.seq (.reg [.r 1 (.boxI (.t 0)),
   .r 2 (.mv (.c (.d (.bool false))))])
 (.seq (.seq (.reg [.r 5 (.fld 1 (.t 1)),
   .o 6 (.ld1 (.t 5)),
   .r 7 (.len (.t 6)),
   .r 8 (.bin .eql (.t 7) (.c (.d (.int .i64 0))))])
 (.cond (.t 8)
  (.seq (.reg [.r 2 (.mv (.c (.d (.bool false))))])
  .ret)
  .skip))
 (.seq (.reg [.r 10 (.fld 1 (.t 1)),
   .o 11 (.ld1 (.t 10)),
   .r 12 (.slc 1 (.t 11) none (some (.c (.d (.int .i64 1))))),
   .r 13 (.build [.d (.str []),.nils] [(1,1,.t 12)]),
   .c 14 (.f 58) [.t 13],
   .r 9 (.mv (.t 14)),
   .r 15 (.ext (.t 9) 0),
   .r 16 (.ext (.t 9) 1),
   .r 3 (.mv (.t 15)),
   .r 4 (.mv (.t 16))])
 (.seq (.reg (.r 17 (.mv (.t 4)):: .r 18 (.mv (.t 17))::cD [19,20,21,22] 18 true (.r 19 (.mv (.t 3)):: .r 20 (.idx 1 (.t 19) (.c (.d (.int .i64 0)))):: .r 21 (.ld1 (.t 20)):: .c 22 (.f 36) [.t 21]::[]) (.r 23 (.pick (.t 18) (.t 22) (.c (.d (.bool false)))):: .r 2 (.mv (.t 23))::[])))
 .ret))))
theorem uM:fits Tryz.prog 94 Tryz.f94 pv [.t 2] 1=true:=oK
set_option maxRecDepth 100000 in
set_option maxHeartbeats 40000000 in
noncomputable def dk:(∀ (x0:List UInt8) (x1:Int),{m:Option (Int×Bool)//∀ r,m=some r->ae Tryz.prog 95 [.str x0,.int .i64 x1] (.tup [.int .i64 r.1,.bool r.2])})×(∀ (x0:Int),{m:Option (Bool)//∀ r,m=some r->ae Tryz.prog 38 [.int .i64 x0] (.bool r)})×(∀ (x0:aa),{m:Option ((List UInt8))//∀ r,m=some r->ae Tryz.prog 92 [.agg (af x0)] (.str r)})×(∀ (x0:aa),{m:Option (Bool)//∀ r,m=some r->ae Tryz.prog 94 [.agg (af x0)] (.bool r)}):=by
 refine⟨?g0, ?g1, ?g2, ?g3⟩
 case' g0=>(intro x0 x1;apply Subtype.mk;intro r hm;apply az Tryz.func95 wM;unfold qE)
 case' g1=>(intro x0;apply Subtype.mk;intro r hm;apply az Tryz.func38 xI;unfold sr)
 case' g2=>(intro x0;apply Subtype.mk;intro r hm;apply az Tryz.func92 wN;unfold qF)
 case' g3=>(intro x0;apply Subtype.mk;intro r hm;apply az Tryz.func94 uM;unfold pv)
 all_goals(repeat'(first|with_reducible refine d6 ?_|with_reducible refine dL ?_|with_reducible refine ii ?_|with_reducible refine cG ?_|with_reducible refine fL ?_|with_reducible refine dM ?_|with_reducible refine d7 ?_|with_reducible refine eO ?_|with_reducible refine fV ?_|((with_reducible apply gy hm);(iterate 2 (simp only[push_cast,seval];rfl));(intro _;rfl);intro e hm)|((with_reducible apply va hm);(iterate 2 (simp only[push_cast,seval];rfl));intro e hm)|((with_reducible apply B6 hm);(iterate 3 (simp only[push_cast,seval];rfl));(intro _;rfl);intro e hm)|((with_reducible apply j1);(simp only[push_cast,seval];rfl);(first|exact trivial))|((with_reducible apply oW hm);(simp only[push_cast,seval];rfl);rfl;intro v hm;rotate_left;intro v g hm)|((with_reducible apply uz hm);(simp only[push_cast,seval];rfl);rfl;intro v hm;rotate_left;intro v g hm)|((with_reducible apply mb hm);(simp only[push_cast,seval];rfl);(first|apply sq _|apply sy _|apply km _ _ _|apply tz _ _|apply kW _|apply ga _);(any_goals((repeat'(first|rfl|(with_reducible first|apply uD|apply zK|apply Il|apply mC)));done));intro x hm)|((with_reducible apply cj hm);(simp only[push_cast,seval];rfl);intro hm;rotate_left;intro hm)|((with_reducible apply wu hm);(focus(simp only[eN,jg,RV.get,push_cast,seval];rfl));(focus(first|(dsimp only;done)));(focus((repeat'(first|rfl));done)))|((with_reducible apply fT hm);(focus(simp only[eN,jg,RV.get,push_cast,seval];rfl));(focus((repeat'(first|rfl));done)))|((with_reducible apply gT hm);(simp only[push_cast,seval];rfl))))
noncomputable def jP (x0:List UInt8) (x1:Int):Option (Int×Bool):=(dk.1 x0 x1).1
theorem oh (x0:List UInt8) (x1:Int):∀ r,jP x0 x1=some r->ae Tryz.prog 95 [.str x0,.int .i64 x1] (.tup [.int .i64 r.1,.bool r.2]):=(dk.1 x0 x1).2
noncomputable def kM (x0:Int):Option (Bool):=(dk.2.1 x0).1
theorem pw (x0:Int):∀ r,kM x0=some r->ae Tryz.prog 38 [.int .i64 x0] (.bool r):=(dk.2.1 x0).2
noncomputable def nU (x0:aa):Option ((List UInt8)):=(dk.2.2.1 x0).1
theorem uN (x0:aa):∀ r,nU x0=some r->ae Tryz.prog 92 [.agg (af x0)] (.str r):=(dk.2.2.1 x0).2
noncomputable def mG (x0:aa):Option (Bool):=(dk.2.2.2 x0).1
theorem tA (x0:aa):∀ r,mG x0=some r->ae Tryz.prog 94 [.agg (af x0)] (.bool r):=(dk.2.2.2 x0).2
def px:SC:=
 (.seq (.reg [.r 1 (.boxI (.t 0)),
   .r 2 (.mv (.c (.d (.bool false))))])
 (.seq (.reg [.o 10 (.ldA 2 (.t 1)),
   .c 11 (.f 58) [.t 10],
   .r 9 (.mv (.t 11)),
   .r 12 (.ext (.t 9) 0),
   .r 13 (.ext (.t 9) 1),
   .r 3 (.mv (.t 12)),
   .r 4 (.mv (.t 13))])
 (.seq (.seq (.reg (.r 14 (.mv (.t 4)):: .r 15 (.not (.t 14)):: .r 16 (.mv (.t 15))::cD [17,18,19] 16 false (.r 17 (.mv (.t 3)):: .r 18 (.len (.t 17)):: .r 19 (.bin .eql (.t 18) (.c (.d (.int .i64 0))))::[]) (.r 20 (.pick (.t 16) (.c (.d (.bool true))) (.t 19)):: .r 21 (.mv (.t 20))::cD [22,23,24,25,26] 21 false (.r 22 (.mv (.t 3)):: .r 23 (.idx 1 (.t 22) (.c (.d (.int .i64 0)))):: .r 24 (.ld1 (.t 23)):: .c 25 (.f 36) [.t 24]:: .r 26 (.not (.t 25))::[]) (.r 27 (.pick (.t 21) (.c (.d (.bool true))) (.t 26))::[]))))
 (.cond (.t 27)
  (.seq (.reg [.r 2 (.mv (.c (.d (.bool false))))])
  .ret)
  .skip))
 (.seq (.seq (.reg [.r 28 (.fld 0 (.t 1)),
   .o 29 (.ld1 (.t 28))])
 (.block 0 (.seq (.reg [.r 31 (.bin .eql (.t 29) (.c (.d (.str [71,72,68])))),
    .r 30 (.mv (.t 31))])
  (.cond (.t 30)
   (.seq (.reg (.r 32 (.mv (.t 3)):: .r 33 (.len (.t 32)):: .r 34 (.bin .eql (.t 33) (.c (.d (.int .i64 2)))):: .r 35 (.mv (.t 34))::cD [36,37,38,39] 35 true (.r 36 (.mv (.t 3)):: .r 37 (.idx 1 (.t 36) (.c (.d (.int .i64 1)))):: .r 38 (.ld1 (.t 37)):: .c 39 (.f 37) [.t 38]::[]) (.r 40 (.pick (.t 35) (.t 39) (.c (.d (.bool false)))):: .r 2 (.mv (.t 40))::[])))
   .ret)
   (.seq (.reg [.r 42 (.bin .eql (.t 29) (.c (.d (.str [77,72,68])))),
     .r 41 (.mv (.t 42))])
   (.cond (.t 41)
    (.seq (.reg (.r 43 (.mv (.t 3)):: .r 44 (.len (.t 43)):: .r 45 (.bin .eql (.t 44) (.c (.d (.int .i64 3)))):: .r 46 (.mv (.t 45))::cD [47,48,49,50] 46 true (.r 47 (.mv (.t 3)):: .r 48 (.idx 1 (.t 47) (.c (.d (.int .i64 1)))):: .r 49 (.ld1 (.t 48)):: .c 50 (.f 37) [.t 49]::[]) (.r 51 (.pick (.t 46) (.t 50) (.c (.d (.bool false)))):: .r 52 (.mv (.t 51))::cD [53,54,55,56] 52 true (.r 53 (.mv (.t 3)):: .r 54 (.idx 1 (.t 53) (.c (.d (.int .i64 2)))):: .r 55 (.ld1 (.t 54)):: .c 56 (.f 37) [.t 55]::[]) (.r 57 (.pick (.t 52) (.t 56) (.c (.d (.bool false)))):: .r 2 (.mv (.t 57))::[]))))
    .ret)
    .skip))))))
 (.seq (.seq (.reg (.r 58 (.mv (.t 3)):: .r 59 (.len (.t 58)):: .r 60 (.bin .neq (.t 59) (.c (.d (.int .i64 6)))):: .r 61 (.mv (.t 60))::cD [62,63,64,65,66] 61 false (.r 62 (.mv (.t 3)):: .r 63 (.idx 1 (.t 62) (.c (.d (.int .i64 1)))):: .r 64 (.ld1 (.t 63)):: .c 65 (.f 37) [.t 64]:: .r 66 (.not (.t 65))::[]) (.r 67 (.pick (.t 61) (.c (.d (.bool true))) (.t 66)):: .r 68 (.mv (.t 67))::cD [69,70,71,72,73] 68 false (.r 69 (.mv (.t 3)):: .r 70 (.idx 1 (.t 69) (.c (.d (.int .i64 2)))):: .r 71 (.ld1 (.t 70)):: .c 72 (.f 37) [.t 71]:: .r 73 (.not (.t 72))::[]) (.r 74 (.pick (.t 68) (.c (.d (.bool true))) (.t 73)):: .r 75 (.mv (.t 74))::cD [76,77,78,79,80,81,82,83,84,85] 75 false (.r 76 (.mv (.t 3)):: .r 77 (.idx 1 (.t 76) (.c (.d (.int .i64 5)))):: .r 78 (.ld1 (.t 77)):: .r 79 (.bin .neq (.t 78) (.c (.d (.str [])))):: .r 80 (.mv (.t 79))::cD [81,82,83,84] 80 true (.r 81 (.mv (.t 3)):: .r 82 (.idx 1 (.t 81) (.c (.d (.int .i64 5)))):: .r 83 (.ld1 (.t 82)):: .r 84 (.bin .neq (.t 83) (.c (.d (.str [49]))))::[]) (.r 85 (.pick (.t 80) (.t 84) (.c (.d (.bool false))))::[])) (.r 86 (.pick (.t 75) (.c (.d (.bool true))) (.t 85))::[])))))
 (.cond (.t 86)
  (.seq (.reg [.r 2 (.mv (.c (.d (.bool false))))])
  .ret)
  .skip))
 (.seq (.reg [.r 88 (.mv (.t 3)),
   .r 89 (.idx 1 (.t 88) (.c (.d (.int .i64 3)))),
   .o 90 (.ld1 (.t 89)),
   .c 91 (.f 95) [.t 90,.c (.d (.int .i64 9))],
   .r 87 (.mv (.t 91)),
   .r 92 (.ext (.t 87) 0),
   .r 93 (.ext (.t 87) 1),
   .r 5 (.mv (.t 92)),
   .r 6 (.mv (.t 93))])
 (.seq (.reg [.r 95 (.mv (.t 3)),
   .r 96 (.idx 1 (.t 95) (.c (.d (.int .i64 4)))),
   .o 97 (.ld1 (.t 96)),
   .c 98 (.f 95) [.t 97,.c (.d (.int .i64 9))],
   .r 94 (.mv (.t 98)),
   .r 99 (.ext (.t 94) 0),
   .r 100 (.ext (.t 94) 1),
   .r 7 (.mv (.t 99)),
   .r 8 (.mv (.t 100))])
 (.seq (.reg (.r 101 (.mv (.t 6)):: .r 102 (.mv (.t 101))::cD [103] 102 true (.r 103 (.mv (.t 8))::[]) (.r 104 (.pick (.t 102) (.t 103) (.c (.d (.bool false)))):: .r 105 (.mv (.t 104))::cD [106,107] 105 true (.r 106 (.mv (.t 5)):: .c 107 (.f 38) [.t 106]::[]) (.r 108 (.pick (.t 105) (.t 107) (.c (.d (.bool false)))):: .r 109 (.mv (.t 108))::cD [110,111,112] 109 true (.r 110 (.mv (.t 7)):: .c 111 (.f 39) [.t 110,.c (.d (.int .i64 0)),.c (.d (.int .i64 86399))]:: .r 112 (.not (.t 111))::[]) (.r 113 (.pick (.t 109) (.t 112) (.c (.d (.bool false)))):: .r 2 (.mv (.t 113))::[])))))
 .ret))))))))
theorem uO:fits Tryz.prog 93 Tryz.f93 px [.t 2] 1=true:=oK
set_option maxRecDepth 100000 in
set_option maxHeartbeats 40000000 in
noncomputable def py:(∀ (x0:aa),{m:Option (Bool)//∀ r,m=some r->ae Tryz.prog 93 [.agg (af x0)] (.bool r)}):=by
 (intro x0;apply Subtype.mk;intro r hm;apply az Tryz.func93 uO;unfold px)
 repeat'(first|with_reducible refine d6 ?_|with_reducible refine dL ?_|with_reducible refine cd ?_|with_reducible refine cG ?_|with_reducible refine fL ?_|with_reducible refine dM ?_|with_reducible refine d7 ?_|with_reducible refine eO ?_|with_reducible refine cg ?_|with_reducible refine eh ?_|with_reducible refine fV ?_|((with_reducible apply gy hm);(iterate 2 (simp only[push_cast,seval];rfl));(intro _;rfl);intro e hm)|((with_reducible apply j1);(simp only[push_cast,seval];rfl);(first|exact trivial))|((with_reducible apply oW hm);(simp only[push_cast,seval];rfl);rfl;intro v hm;rotate_left;intro v g hm)|((with_reducible apply uz hm);(simp only[push_cast,seval];rfl);rfl;intro v hm;rotate_left;intro v g hm)|((with_reducible apply mb hm);(simp only[push_cast,seval];rfl);(first|apply kW _|apply ga _|apply iF _|apply oh _ _|apply pw _|apply km _ _ _);(any_goals((repeat'(first|rfl));done));intro x hm)|((with_reducible apply cj hm);(simp only[push_cast,seval];rfl);intro hm;rotate_left;intro hm)|((with_reducible apply fT hm);(focus(simp only[eN,jg,RV.get,push_cast,seval];rfl));(focus((repeat'(first|rfl));done)))|((with_reducible apply gT hm);(simp only[push_cast,seval];rfl)))
noncomputable def mH (x0:aa):Option (Bool):=(py x0).1
theorem tB (x0:aa):∀ r,mH x0=some r->ae Tryz.prog 93 [.agg (af x0)] (.bool r):=(py x0).2

end Go.Proofs.YtgmnipfafmphaaaGreatDoor
