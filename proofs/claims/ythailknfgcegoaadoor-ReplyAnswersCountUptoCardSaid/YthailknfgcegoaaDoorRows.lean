/-
  NARROWER THAN 'FOR EVERY INPUT', by the rows' own cells (each row's printed sentence says how): WireShortsMatchSpec: laid · WireTextsMatchSpec: laid · WirePutsAreFound: laid · WireShortsSayTheSame: laid · ReplyAnswersCount: laid · ReplyAnswersMatchSpec: laid · ReplyChecksMatchSpec: laid · ReplyStatesMatchSpec: laid · ReplyLaterChangesNothing: laid.
  DERIVED. THE GIVEN ROWS OF THIS SEAT. 9 by the template 'for every input the law returns true; each argument reads behind the call as it read before'; 0 by the template 'total and deterministic' (their statements: YthailknfgcegoaaDoorTotals.lean).
  GIVEN WITH THE SEED: the statements are not yours to turn. If you find one false, say at which input.
  Laid BY PROGRAM, IN A SANDBOX (cutbox-rows.mjs): the forced cells as the released guide's own fill.sh prints them over the translation b76cd4577f279f44… (all of the seat's roots in one cut). By AI agents, Wed Nov 11 2026. No macro, syntax, notation, axiom, sorry.
-/
import Derived.Test.YthailknfgcegoaaDoorChecked
import GoSem.PinnedTables
import GoSem.Claim
import GoSem.ClaimJoined
import GoSem.ClaimMapViews
import Derived.JoinedTies
import Derived.KernelRfl
namespace Go.Proofs.YthailknfgcegoaaDoor
/- THE CELL 'sum', in the pinned program and in every row, IS THE sha256 OF THE DUMP (.gsa) THAT YthailknfgcegoaaDoorProg.lean LOADS. Nothing in Lean hashes anything: it is a label: what it is worth is what the hold of that sum in a sandbox is worth. -/
noncomputable def Tryd.pinned : Pinned := { name := "ythailknfgcegoaadoor", sum := "b76cd4577f279f44fb49ce1a103f865a98105306a9d7b3f5521c738184c32e71", checked := Tryd.checked }
namespace Rows
def none {H : Type} : Left H := { results := [], args := [] }

/- WHAT THE LISTED PACKAGE-LEVEL VARIABLES READ AS WHEN THE CALL BEGINS. Each datum BY PROGRAM (the guide's laid-datum.mjs) off the statement by which the dump's own 'gosem.cut.vars' lays the variable. In a bare row this is a premise. The card (YthailknfgcegoaaDoorCards.lean) ties it to the program's text. -/
def laid_unicode_utf8_acceptRanges {H : Type} : DataW H := .agg [.agg [.lit (.int .u8 128), .lit (.int .u8 191)], .agg [.lit (.int .u8 160), .lit (.int .u8 191)], .agg [.lit (.int .u8 128), .lit (.int .u8 159)], .agg [.lit (.int .u8 144), .lit (.int .u8 191)], .agg [.lit (.int .u8 128), .lit (.int .u8 143)], .agg [.lit (.int .u8 0), .lit (.int .u8 0)], .agg [.lit (.int .u8 0), .lit (.int .u8 0)], .agg [.lit (.int .u8 0), .lit (.int .u8 0)], .agg [.lit (.int .u8 0), .lit (.int .u8 0)], .agg [.lit (.int .u8 0), .lit (.int .u8 0)], .agg [.lit (.int .u8 0), .lit (.int .u8 0)], .agg [.lit (.int .u8 0), .lit (.int .u8 0)], .agg [.lit (.int .u8 0), .lit (.int .u8 0)], .agg [.lit (.int .u8 0), .lit (.int .u8 0)], .agg [.lit (.int .u8 0), .lit (.int .u8 0)], .agg [.lit (.int .u8 0), .lit (.int .u8 0)]]
/-- One of Go's own tables, pinned by name: the form's constant. -/
def laid_unicode_utf8_first : DataW Unit := Go.Pinned.utf8First
def laid_math_bits_deBruijn32tab {H : Type} : DataW H := .agg [.lit (.int .u8 0), .lit (.int .u8 1), .lit (.int .u8 28), .lit (.int .u8 2), .lit (.int .u8 29), .lit (.int .u8 14), .lit (.int .u8 24), .lit (.int .u8 3), .lit (.int .u8 30), .lit (.int .u8 22), .lit (.int .u8 20), .lit (.int .u8 15), .lit (.int .u8 25), .lit (.int .u8 17), .lit (.int .u8 4), .lit (.int .u8 8), .lit (.int .u8 31), .lit (.int .u8 27), .lit (.int .u8 13), .lit (.int .u8 23), .lit (.int .u8 21), .lit (.int .u8 19), .lit (.int .u8 16), .lit (.int .u8 7), .lit (.int .u8 26), .lit (.int .u8 12), .lit (.int .u8 18), .lit (.int .u8 6), .lit (.int .u8 11), .lit (.int .u8 5), .lit (.int .u8 10), .lit (.int .u8 9)]
def laid_math_bits_deBruijn64tab {H : Type} : DataW H := .agg [.lit (.int .u8 0), .lit (.int .u8 1), .lit (.int .u8 56), .lit (.int .u8 2), .lit (.int .u8 57), .lit (.int .u8 49), .lit (.int .u8 28), .lit (.int .u8 3), .lit (.int .u8 61), .lit (.int .u8 58), .lit (.int .u8 42), .lit (.int .u8 50), .lit (.int .u8 38), .lit (.int .u8 29), .lit (.int .u8 17), .lit (.int .u8 4), .lit (.int .u8 62), .lit (.int .u8 47), .lit (.int .u8 59), .lit (.int .u8 36), .lit (.int .u8 45), .lit (.int .u8 43), .lit (.int .u8 51), .lit (.int .u8 22), .lit (.int .u8 53), .lit (.int .u8 39), .lit (.int .u8 33), .lit (.int .u8 30), .lit (.int .u8 24), .lit (.int .u8 18), .lit (.int .u8 12), .lit (.int .u8 5), .lit (.int .u8 63), .lit (.int .u8 55), .lit (.int .u8 48), .lit (.int .u8 27), .lit (.int .u8 60), .lit (.int .u8 41), .lit (.int .u8 37), .lit (.int .u8 16), .lit (.int .u8 46), .lit (.int .u8 35), .lit (.int .u8 44), .lit (.int .u8 21), .lit (.int .u8 52), .lit (.int .u8 32), .lit (.int .u8 23), .lit (.int .u8 11), .lit (.int .u8 54), .lit (.int .u8 26), .lit (.int .u8 40), .lit (.int .u8 15), .lit (.int .u8 34), .lit (.int .u8 20), .lit (.int .u8 31), .lit (.int .u8 10), .lit (.int .u8 25), .lit (.int .u8 14), .lit (.int .u8 19), .lit (.int .u8 9), .lit (.int .u8 13), .lit (.int .u8 8), .lit (.int .u8 7), .lit (.int .u8 6)]
def laid_internal_strconv_uint64pow10 {H : Type} : DataW H := .agg [.lit (.int .u64 1), .lit (.int .u64 10), .lit (.int .u64 100), .lit (.int .u64 1000), .lit (.int .u64 10000), .lit (.int .u64 100000), .lit (.int .u64 1000000), .lit (.int .u64 10000000), .lit (.int .u64 100000000), .lit (.int .u64 1000000000), .lit (.int .u64 10000000000), .lit (.int .u64 100000000000), .lit (.int .u64 1000000000000), .lit (.int .u64 10000000000000), .lit (.int .u64 100000000000000), .lit (.int .u64 1000000000000000), .lit (.int .u64 10000000000000000), .lit (.int .u64 100000000000000000), .lit (.int .u64 1000000000000000000), .lit (.int .u64 10000000000000000000)]

/-- 'interchangelaw2.WireShortsMatchSpec': WHATEVER THE INPUT: true; the input reads as it did. -/
def wireShortsMatchSpecSpec : ChangeSpec := { name := "wireShortsMatchSpec", fn := fun _ => fun
  | [d] => { results := [.lit (.bool true)], args := [d] }
  | _ => none }
def wireShortsMatchSpecRow : OpenClaim := { program := "ythailknfgcegoaadoor", sum := "b76cd4577f279f44fb49ce1a103f865a98105306a9d7b3f5521c738184c32e71", func := "interchange/interchangelaw2.WireShortsMatchSpec", spec := "wireShortsMatchSpec", inPlace := ["internal/bytealg.IndexByteString", "internal/bytealg.IndexString"], named := ["unicode/utf8.first", "unicode/utf8.acceptRanges", "internal/bytealg.MaxLen"], apart := false, laid := [("unicode/utf8.acceptRanges", laid_unicode_utf8_acceptRanges), ("unicode/utf8.first", laid_unicode_utf8_first)] }
def WireShortsMatchSpecSaid : Prop := wireShortsMatchSpecRow.holds Tryd.pinned (OpenSpec.ofChange wireShortsMatchSpecSpec)

/-- ITS FALSE NEIGHBOUR: 'it returns false'. Refute it at one input. -/
def wireShortsMatchSpecWrong : ChangeSpec := { name := "wireShortsMatchSpec", fn := fun _ => fun
  | [d] => { results := [.lit (.bool false)], args := [d] }
  | _ => none }
def WireShortsMatchSpecWrongFalsely : Prop := wireShortsMatchSpecRow.holds Tryd.pinned (OpenSpec.ofChange wireShortsMatchSpecWrong)

/-- 'interchangelaw2.WireTextsMatchSpec': WHATEVER THE INPUT: true; the input reads as it did. -/
def wireTextsMatchSpecSpec : ChangeSpec := { name := "wireTextsMatchSpec", fn := fun _ => fun
  | [d1, d2, d3] => { results := [.lit (.bool true)], args := [d1, d2, d3] }
  | _ => none }
def wireTextsMatchSpecRow : OpenClaim := { program := "ythailknfgcegoaadoor", sum := "b76cd4577f279f44fb49ce1a103f865a98105306a9d7b3f5521c738184c32e71", func := "interchange/interchangelaw2.WireTextsMatchSpec", spec := "wireTextsMatchSpec", inPlace := ["internal/bytealg.IndexByteString", "internal/bytealg.IndexString"], named := ["unicode/utf8.first", "unicode/utf8.acceptRanges", "internal/bytealg.MaxLen"], apart := false, laid := [("unicode/utf8.acceptRanges", laid_unicode_utf8_acceptRanges), ("unicode/utf8.first", laid_unicode_utf8_first)] }
def WireTextsMatchSpecSaid : Prop := wireTextsMatchSpecRow.holds Tryd.pinned (OpenSpec.ofChange wireTextsMatchSpecSpec)

/-- ITS FALSE NEIGHBOUR: 'it returns false'. Refute it at one input. -/
def wireTextsMatchSpecWrong : ChangeSpec := { name := "wireTextsMatchSpec", fn := fun _ => fun
  | [d1, d2, d3] => { results := [.lit (.bool false)], args := [d1, d2, d3] }
  | _ => none }
def WireTextsMatchSpecWrongFalsely : Prop := wireTextsMatchSpecRow.holds Tryd.pinned (OpenSpec.ofChange wireTextsMatchSpecWrong)

/-- 'interchangelaw2.WirePutsAreFound': WHATEVER THE INPUT: true; the input reads as it did. -/
def wirePutsAreFoundSpec : ChangeSpec := { name := "wirePutsAreFound", fn := fun _ => fun
  | [d1, d2, d3, d4] => { results := [.lit (.bool true)], args := [d1, d2, d3, d4] }
  | _ => none }
def wirePutsAreFoundRow : OpenClaim := { program := "ythailknfgcegoaadoor", sum := "b76cd4577f279f44fb49ce1a103f865a98105306a9d7b3f5521c738184c32e71", func := "interchange/interchangelaw2.WirePutsAreFound", spec := "wirePutsAreFound", inPlace := ["internal/bytealg.IndexByteString", "internal/bytealg.IndexString"], named := ["unicode/utf8.first", "unicode/utf8.acceptRanges", "internal/bytealg.MaxLen"], apart := false, laid := [("unicode/utf8.acceptRanges", laid_unicode_utf8_acceptRanges), ("unicode/utf8.first", laid_unicode_utf8_first)] }
def WirePutsAreFoundSaid : Prop := wirePutsAreFoundRow.holds Tryd.pinned (OpenSpec.ofChange wirePutsAreFoundSpec)

/-- ITS FALSE NEIGHBOUR: 'it returns false'. Refute it at one input. -/
def wirePutsAreFoundWrong : ChangeSpec := { name := "wirePutsAreFound", fn := fun _ => fun
  | [d1, d2, d3, d4] => { results := [.lit (.bool false)], args := [d1, d2, d3, d4] }
  | _ => none }
def WirePutsAreFoundWrongFalsely : Prop := wirePutsAreFoundRow.holds Tryd.pinned (OpenSpec.ofChange wirePutsAreFoundWrong)

/-- 'interchangelaw2.WireShortsSayTheSame': WHATEVER THE INPUT: true; the input reads as it did. -/
def wireShortsSayTheSameSpec : ChangeSpec := { name := "wireShortsSayTheSame", fn := fun _ => fun
  | [d1, d2, d3] => { results := [.lit (.bool true)], args := [d1, d2, d3] }
  | _ => none }
def wireShortsSayTheSameRow : OpenClaim := { program := "ythailknfgcegoaadoor", sum := "b76cd4577f279f44fb49ce1a103f865a98105306a9d7b3f5521c738184c32e71", func := "interchange/interchangelaw2.WireShortsSayTheSame", spec := "wireShortsSayTheSame", inPlace := ["internal/bytealg.IndexByteString", "internal/bytealg.IndexString"], named := ["unicode/utf8.first", "unicode/utf8.acceptRanges", "internal/bytealg.MaxLen"], apart := false, laid := [("unicode/utf8.acceptRanges", laid_unicode_utf8_acceptRanges), ("unicode/utf8.first", laid_unicode_utf8_first)] }
def WireShortsSayTheSameSaid : Prop := wireShortsSayTheSameRow.holds Tryd.pinned (OpenSpec.ofChange wireShortsSayTheSameSpec)

/-- ITS FALSE NEIGHBOUR: 'it returns false'. Refute it at one input. -/
def wireShortsSayTheSameWrong : ChangeSpec := { name := "wireShortsSayTheSame", fn := fun _ => fun
  | [d1, d2, d3] => { results := [.lit (.bool false)], args := [d1, d2, d3] }
  | _ => none }
def WireShortsSayTheSameWrongFalsely : Prop := wireShortsSayTheSameRow.holds Tryd.pinned (OpenSpec.ofChange wireShortsSayTheSameWrong)

/-- 'interchangelaw7.ReplyAnswersCount': WHATEVER THE INPUT: true; the input reads as it did. -/
def replyAnswersCountSpec : ChangeSpec := { name := "replyAnswersCount", fn := fun _ => fun
  | [d1, d2, d3] => { results := [.lit (.bool true)], args := [d1, d2, d3] }
  | _ => none }
def replyAnswersCountRow : OpenClaim := { program := "ythailknfgcegoaadoor", sum := "b76cd4577f279f44fb49ce1a103f865a98105306a9d7b3f5521c738184c32e71", func := "interchange/interchangelaw7.ReplyAnswersCount", spec := "replyAnswersCount", inPlace := ["internal/bytealg.IndexByteString", "internal/bytealg.IndexString"], unfollowed := true, recurses := true, named := ["unicode/utf8.first", "unicode/utf8.acceptRanges", "internal/bytealg.MaxLen"], apart := false, laid := [("unicode/utf8.acceptRanges", laid_unicode_utf8_acceptRanges), ("unicode/utf8.first", laid_unicode_utf8_first)] }
def ReplyAnswersCountSaid : Prop := replyAnswersCountRow.holds Tryd.pinned (OpenSpec.ofChange replyAnswersCountSpec)

/-- ITS FALSE NEIGHBOUR: 'it returns false'. Refute it at one input. -/
def replyAnswersCountWrong : ChangeSpec := { name := "replyAnswersCount", fn := fun _ => fun
  | [d1, d2, d3] => { results := [.lit (.bool false)], args := [d1, d2, d3] }
  | _ => none }
def ReplyAnswersCountWrongFalsely : Prop := replyAnswersCountRow.holds Tryd.pinned (OpenSpec.ofChange replyAnswersCountWrong)

/-- 'interchangelaw7.ReplyAnswersMatchSpec': WHATEVER THE INPUT: true; the input reads as it did. -/
def replyAnswersMatchSpecSpec : ChangeSpec := { name := "replyAnswersMatchSpec", fn := fun _ => fun
  | [d1, d2, d3] => { results := [.lit (.bool true)], args := [d1, d2, d3] }
  | _ => none }
def replyAnswersMatchSpecRow : OpenClaim := { program := "ythailknfgcegoaadoor", sum := "b76cd4577f279f44fb49ce1a103f865a98105306a9d7b3f5521c738184c32e71", func := "interchange/interchangelaw7.ReplyAnswersMatchSpec", spec := "replyAnswersMatchSpec", inPlace := ["internal/bytealg.IndexByteString", "internal/bytealg.IndexString"], unfollowed := true, recurses := true, named := ["unicode/utf8.first", "unicode/utf8.acceptRanges", "internal/bytealg.MaxLen"], apart := false, laid := [("unicode/utf8.acceptRanges", laid_unicode_utf8_acceptRanges), ("unicode/utf8.first", laid_unicode_utf8_first)] }
def ReplyAnswersMatchSpecSaid : Prop := replyAnswersMatchSpecRow.holds Tryd.pinned (OpenSpec.ofChange replyAnswersMatchSpecSpec)

/-- ITS FALSE NEIGHBOUR: 'it returns false'. Refute it at one input. -/
def replyAnswersMatchSpecWrong : ChangeSpec := { name := "replyAnswersMatchSpec", fn := fun _ => fun
  | [d1, d2, d3] => { results := [.lit (.bool false)], args := [d1, d2, d3] }
  | _ => none }
def ReplyAnswersMatchSpecWrongFalsely : Prop := replyAnswersMatchSpecRow.holds Tryd.pinned (OpenSpec.ofChange replyAnswersMatchSpecWrong)

/-- 'interchangelaw7.ReplyChecksMatchSpec': WHATEVER THE INPUT: true; the input reads as it did. -/
def replyChecksMatchSpecSpec : ChangeSpec := { name := "replyChecksMatchSpec", fn := fun _ => fun
  | [d] => { results := [.lit (.bool true)], args := [d] }
  | _ => none }
def replyChecksMatchSpecRow : OpenClaim := { program := "ythailknfgcegoaadoor", sum := "b76cd4577f279f44fb49ce1a103f865a98105306a9d7b3f5521c738184c32e71", func := "interchange/interchangelaw7.ReplyChecksMatchSpec", spec := "replyChecksMatchSpec", inPlace := ["internal/bytealg.IndexByteString", "internal/bytealg.IndexString"], unfollowed := true, recurses := true, named := ["unicode/utf8.first", "unicode/utf8.acceptRanges", "internal/strconv.uint64pow10", "math/bits.deBruijn32tab", "math/bits.deBruijn64tab", "internal/bytealg.MaxLen"], apart := false, laid := [("math/bits.deBruijn32tab", laid_math_bits_deBruijn32tab), ("math/bits.deBruijn64tab", laid_math_bits_deBruijn64tab), ("internal/strconv.uint64pow10", laid_internal_strconv_uint64pow10), ("unicode/utf8.acceptRanges", laid_unicode_utf8_acceptRanges), ("unicode/utf8.first", laid_unicode_utf8_first)] }
def ReplyChecksMatchSpecSaid : Prop := replyChecksMatchSpecRow.holds Tryd.pinned (OpenSpec.ofChange replyChecksMatchSpecSpec)

/-- ITS FALSE NEIGHBOUR: 'it returns false'. Refute it at one input. -/
def replyChecksMatchSpecWrong : ChangeSpec := { name := "replyChecksMatchSpec", fn := fun _ => fun
  | [d] => { results := [.lit (.bool false)], args := [d] }
  | _ => none }
def ReplyChecksMatchSpecWrongFalsely : Prop := replyChecksMatchSpecRow.holds Tryd.pinned (OpenSpec.ofChange replyChecksMatchSpecWrong)

/-- 'interchangelaw7.ReplyStatesMatchSpec': WHATEVER THE INPUT: true; the input reads as it did. -/
def replyStatesMatchSpecSpec : ChangeSpec := { name := "replyStatesMatchSpec", fn := fun _ => fun
  | [d1, d2, d3, d4] => { results := [.lit (.bool true)], args := [d1, d2, d3, d4] }
  | _ => none }
def replyStatesMatchSpecRow : OpenClaim := { program := "ythailknfgcegoaadoor", sum := "b76cd4577f279f44fb49ce1a103f865a98105306a9d7b3f5521c738184c32e71", func := "interchange/interchangelaw7.ReplyStatesMatchSpec", spec := "replyStatesMatchSpec", inPlace := ["internal/bytealg.IndexByteString", "internal/bytealg.IndexString"], recurses := true, named := ["unicode/utf8.first", "unicode/utf8.acceptRanges", "internal/bytealg.MaxLen"], apart := false, laid := [("unicode/utf8.acceptRanges", laid_unicode_utf8_acceptRanges), ("unicode/utf8.first", laid_unicode_utf8_first)] }
def ReplyStatesMatchSpecSaid : Prop := replyStatesMatchSpecRow.holds Tryd.pinned (OpenSpec.ofChange replyStatesMatchSpecSpec)

/-- ITS FALSE NEIGHBOUR: 'it returns false'. Refute it at one input. -/
def replyStatesMatchSpecWrong : ChangeSpec := { name := "replyStatesMatchSpec", fn := fun _ => fun
  | [d1, d2, d3, d4] => { results := [.lit (.bool false)], args := [d1, d2, d3, d4] }
  | _ => none }
def ReplyStatesMatchSpecWrongFalsely : Prop := replyStatesMatchSpecRow.holds Tryd.pinned (OpenSpec.ofChange replyStatesMatchSpecWrong)

/-- 'interchangelaw7.ReplyLaterChangesNothing': WHATEVER THE INPUT: true; the input reads as it did. -/
def replyLaterChangesNothingSpec : ChangeSpec := { name := "replyLaterChangesNothing", fn := fun _ => fun
  | [d1, d2, d3] => { results := [.lit (.bool true)], args := [d1, d2, d3] }
  | _ => none }
def replyLaterChangesNothingRow : OpenClaim := { program := "ythailknfgcegoaadoor", sum := "b76cd4577f279f44fb49ce1a103f865a98105306a9d7b3f5521c738184c32e71", func := "interchange/interchangelaw7.ReplyLaterChangesNothing", spec := "replyLaterChangesNothing", inPlace := ["internal/bytealg.IndexByteString", "internal/bytealg.IndexString"], recurses := true, named := ["unicode/utf8.first", "unicode/utf8.acceptRanges", "internal/bytealg.MaxLen"], apart := false, laid := [("unicode/utf8.acceptRanges", laid_unicode_utf8_acceptRanges), ("unicode/utf8.first", laid_unicode_utf8_first)] }
def ReplyLaterChangesNothingSaid : Prop := replyLaterChangesNothingRow.holds Tryd.pinned (OpenSpec.ofChange replyLaterChangesNothingSpec)

/-- ITS FALSE NEIGHBOUR: 'it returns false'. Refute it at one input. -/
def replyLaterChangesNothingWrong : ChangeSpec := { name := "replyLaterChangesNothing", fn := fun _ => fun
  | [d1, d2, d3] => { results := [.lit (.bool false)], args := [d1, d2, d3] }
  | _ => none }
def ReplyLaterChangesNothingWrongFalsely : Prop := replyLaterChangesNothingRow.holds Tryd.pinned (OpenSpec.ofChange replyLaterChangesNothingWrong)

/- THE SECOND FORM. 'bulk': how many values and letters a reading holds, each counted each time it is reached (what is shared counts as often as it is met; a slice's spare places count too). A statement '..UptoSaid' is the law's where the arguments, and the package variables that the reading takes, are together of bulk at most 1048576: NARROWER than '..Said'. Prove '..Said' where nothing that the law and all that it calls make is longer than what came in: it says more and counts as full. Else prove '..UptoSaid'. A law counts once. -/
mutual
def uptoBulk {H : Type} : DataW H → Nat
  | .lit (.string bytes) => bytes.length + 1
  | .lit _ => 1
  | .nil => 1
  | .ptr d => uptoBulk d + 1
  | .slice elems spare => uptoBulkAll elems + uptoBulkAll spare + 1
  | .agg parts => uptoBulkAll parts + 1
  | .iface _ d => uptoBulk d + 1
  | .map entries => uptoBulkEntries entries + 1
  | .held _ => 1
def uptoBulkAll {H : Type} : List (DataW H) → Nat
  | [] => 0
  | d :: r => uptoBulk d + uptoBulkAll r
def uptoBulkEntries {H : Type} : List (Lit × DataW H) → Nat
  | [] => 0
  | x :: r => uptoBulkEntry x + uptoBulkEntries r
def uptoBulkEntry {H : Type} : Lit × DataW H → Nat
  | (.string bytes, d) => bytes.length + uptoBulk d + 1
  | (_, d) => uptoBulk d + 1
 end
def uptoSmall : (H : Type) → List (DataW H) → Bool := fun _ ds => decide (uptoBulkAll ds ≤ 1048576)
def OpenSpec.upto (s : _root_.Go.ChangeSpec) : _root_.Go.OpenSpec := { _root_.Go.OpenSpec.ofChange s with cond := some uptoSmall }

/-- 'interchangelaw2.WireShortsMatchSpec', WHERE WHAT IT READS IS OF BULK AT MOST 1048576: true; the input reads as it did. -/
def wireShortsMatchSpecUptoRow : OpenClaim := { program := "ythailknfgcegoaadoor", sum := "b76cd4577f279f44fb49ce1a103f865a98105306a9d7b3f5521c738184c32e71", func := "interchange/interchangelaw2.WireShortsMatchSpec", spec := "wireShortsMatchSpec", inPlace := ["internal/bytealg.IndexByteString", "internal/bytealg.IndexString"], named := ["unicode/utf8.first", "unicode/utf8.acceptRanges", "internal/bytealg.MaxLen"], apart := false, laid := [("unicode/utf8.acceptRanges", laid_unicode_utf8_acceptRanges), ("unicode/utf8.first", laid_unicode_utf8_first)], narrowed := true }
def WireShortsMatchSpecUptoSaid : Prop := wireShortsMatchSpecUptoRow.holds Tryd.pinned (OpenSpec.upto wireShortsMatchSpecSpec)

/-- 'interchangelaw2.WireTextsMatchSpec', WHERE WHAT IT READS IS OF BULK AT MOST 1048576: true; the input reads as it did. -/
def wireTextsMatchSpecUptoRow : OpenClaim := { program := "ythailknfgcegoaadoor", sum := "b76cd4577f279f44fb49ce1a103f865a98105306a9d7b3f5521c738184c32e71", func := "interchange/interchangelaw2.WireTextsMatchSpec", spec := "wireTextsMatchSpec", inPlace := ["internal/bytealg.IndexByteString", "internal/bytealg.IndexString"], named := ["unicode/utf8.first", "unicode/utf8.acceptRanges", "internal/bytealg.MaxLen"], apart := false, laid := [("unicode/utf8.acceptRanges", laid_unicode_utf8_acceptRanges), ("unicode/utf8.first", laid_unicode_utf8_first)], narrowed := true }
def WireTextsMatchSpecUptoSaid : Prop := wireTextsMatchSpecUptoRow.holds Tryd.pinned (OpenSpec.upto wireTextsMatchSpecSpec)

/-- 'interchangelaw2.WirePutsAreFound', WHERE WHAT IT READS IS OF BULK AT MOST 1048576: true; the input reads as it did. -/
def wirePutsAreFoundUptoRow : OpenClaim := { program := "ythailknfgcegoaadoor", sum := "b76cd4577f279f44fb49ce1a103f865a98105306a9d7b3f5521c738184c32e71", func := "interchange/interchangelaw2.WirePutsAreFound", spec := "wirePutsAreFound", inPlace := ["internal/bytealg.IndexByteString", "internal/bytealg.IndexString"], named := ["unicode/utf8.first", "unicode/utf8.acceptRanges", "internal/bytealg.MaxLen"], apart := false, laid := [("unicode/utf8.acceptRanges", laid_unicode_utf8_acceptRanges), ("unicode/utf8.first", laid_unicode_utf8_first)], narrowed := true }
def WirePutsAreFoundUptoSaid : Prop := wirePutsAreFoundUptoRow.holds Tryd.pinned (OpenSpec.upto wirePutsAreFoundSpec)

/-- 'interchangelaw2.WireShortsSayTheSame', WHERE WHAT IT READS IS OF BULK AT MOST 1048576: true; the input reads as it did. -/
def wireShortsSayTheSameUptoRow : OpenClaim := { program := "ythailknfgcegoaadoor", sum := "b76cd4577f279f44fb49ce1a103f865a98105306a9d7b3f5521c738184c32e71", func := "interchange/interchangelaw2.WireShortsSayTheSame", spec := "wireShortsSayTheSame", inPlace := ["internal/bytealg.IndexByteString", "internal/bytealg.IndexString"], named := ["unicode/utf8.first", "unicode/utf8.acceptRanges", "internal/bytealg.MaxLen"], apart := false, laid := [("unicode/utf8.acceptRanges", laid_unicode_utf8_acceptRanges), ("unicode/utf8.first", laid_unicode_utf8_first)], narrowed := true }
def WireShortsSayTheSameUptoSaid : Prop := wireShortsSayTheSameUptoRow.holds Tryd.pinned (OpenSpec.upto wireShortsSayTheSameSpec)

/-- 'interchangelaw7.ReplyAnswersCount', WHERE WHAT IT READS IS OF BULK AT MOST 1048576: true; the input reads as it did. -/
def replyAnswersCountUptoRow : OpenClaim := { program := "ythailknfgcegoaadoor", sum := "b76cd4577f279f44fb49ce1a103f865a98105306a9d7b3f5521c738184c32e71", func := "interchange/interchangelaw7.ReplyAnswersCount", spec := "replyAnswersCount", inPlace := ["internal/bytealg.IndexByteString", "internal/bytealg.IndexString"], unfollowed := true, recurses := true, named := ["unicode/utf8.first", "unicode/utf8.acceptRanges", "internal/bytealg.MaxLen"], apart := false, laid := [("unicode/utf8.acceptRanges", laid_unicode_utf8_acceptRanges), ("unicode/utf8.first", laid_unicode_utf8_first)], narrowed := true }
def ReplyAnswersCountUptoSaid : Prop := replyAnswersCountUptoRow.holds Tryd.pinned (OpenSpec.upto replyAnswersCountSpec)

/-- 'interchangelaw7.ReplyAnswersMatchSpec', WHERE WHAT IT READS IS OF BULK AT MOST 1048576: true; the input reads as it did. -/
def replyAnswersMatchSpecUptoRow : OpenClaim := { program := "ythailknfgcegoaadoor", sum := "b76cd4577f279f44fb49ce1a103f865a98105306a9d7b3f5521c738184c32e71", func := "interchange/interchangelaw7.ReplyAnswersMatchSpec", spec := "replyAnswersMatchSpec", inPlace := ["internal/bytealg.IndexByteString", "internal/bytealg.IndexString"], unfollowed := true, recurses := true, named := ["unicode/utf8.first", "unicode/utf8.acceptRanges", "internal/bytealg.MaxLen"], apart := false, laid := [("unicode/utf8.acceptRanges", laid_unicode_utf8_acceptRanges), ("unicode/utf8.first", laid_unicode_utf8_first)], narrowed := true }
def ReplyAnswersMatchSpecUptoSaid : Prop := replyAnswersMatchSpecUptoRow.holds Tryd.pinned (OpenSpec.upto replyAnswersMatchSpecSpec)

/-- 'interchangelaw7.ReplyChecksMatchSpec', WHERE WHAT IT READS IS OF BULK AT MOST 1048576: true; the input reads as it did. -/
def replyChecksMatchSpecUptoRow : OpenClaim := { program := "ythailknfgcegoaadoor", sum := "b76cd4577f279f44fb49ce1a103f865a98105306a9d7b3f5521c738184c32e71", func := "interchange/interchangelaw7.ReplyChecksMatchSpec", spec := "replyChecksMatchSpec", inPlace := ["internal/bytealg.IndexByteString", "internal/bytealg.IndexString"], unfollowed := true, recurses := true, named := ["unicode/utf8.first", "unicode/utf8.acceptRanges", "internal/strconv.uint64pow10", "math/bits.deBruijn32tab", "math/bits.deBruijn64tab", "internal/bytealg.MaxLen"], apart := false, laid := [("math/bits.deBruijn32tab", laid_math_bits_deBruijn32tab), ("math/bits.deBruijn64tab", laid_math_bits_deBruijn64tab), ("internal/strconv.uint64pow10", laid_internal_strconv_uint64pow10), ("unicode/utf8.acceptRanges", laid_unicode_utf8_acceptRanges), ("unicode/utf8.first", laid_unicode_utf8_first)], narrowed := true }
def ReplyChecksMatchSpecUptoSaid : Prop := replyChecksMatchSpecUptoRow.holds Tryd.pinned (OpenSpec.upto replyChecksMatchSpecSpec)

/-- 'interchangelaw7.ReplyStatesMatchSpec', WHERE WHAT IT READS IS OF BULK AT MOST 1048576: true; the input reads as it did. -/
def replyStatesMatchSpecUptoRow : OpenClaim := { program := "ythailknfgcegoaadoor", sum := "b76cd4577f279f44fb49ce1a103f865a98105306a9d7b3f5521c738184c32e71", func := "interchange/interchangelaw7.ReplyStatesMatchSpec", spec := "replyStatesMatchSpec", inPlace := ["internal/bytealg.IndexByteString", "internal/bytealg.IndexString"], recurses := true, named := ["unicode/utf8.first", "unicode/utf8.acceptRanges", "internal/bytealg.MaxLen"], apart := false, laid := [("unicode/utf8.acceptRanges", laid_unicode_utf8_acceptRanges), ("unicode/utf8.first", laid_unicode_utf8_first)], narrowed := true }
def ReplyStatesMatchSpecUptoSaid : Prop := replyStatesMatchSpecUptoRow.holds Tryd.pinned (OpenSpec.upto replyStatesMatchSpecSpec)

/-- 'interchangelaw7.ReplyLaterChangesNothing', WHERE WHAT IT READS IS OF BULK AT MOST 1048576: true; the input reads as it did. -/
def replyLaterChangesNothingUptoRow : OpenClaim := { program := "ythailknfgcegoaadoor", sum := "b76cd4577f279f44fb49ce1a103f865a98105306a9d7b3f5521c738184c32e71", func := "interchange/interchangelaw7.ReplyLaterChangesNothing", spec := "replyLaterChangesNothing", inPlace := ["internal/bytealg.IndexByteString", "internal/bytealg.IndexString"], recurses := true, named := ["unicode/utf8.first", "unicode/utf8.acceptRanges", "internal/bytealg.MaxLen"], apart := false, laid := [("unicode/utf8.acceptRanges", laid_unicode_utf8_acceptRanges), ("unicode/utf8.first", laid_unicode_utf8_first)], narrowed := true }
def ReplyLaterChangesNothingUptoSaid : Prop := replyLaterChangesNothingUptoRow.holds Tryd.pinned (OpenSpec.upto replyLaterChangesNothingSpec)

end Rows
end Go.Proofs.YthailknfgcegoaaDoor
