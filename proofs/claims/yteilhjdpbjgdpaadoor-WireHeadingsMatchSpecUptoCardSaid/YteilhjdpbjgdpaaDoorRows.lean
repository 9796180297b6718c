/-
  NARROWER THAN 'FOR EVERY INPUT', by the rows' own cells (each row's printed sentence says how): WireHeadingsMatchSpec: laid · WireChecksMatchSpec: laid · WireShortsMatchSpec: laid · WireBestMatchesSpec: laid · WireTextsMatchSpec: laid · WirePutsAreFound: laid · WireShortsSayTheSame: laid · WireJoinsMatchSpec: laid · WirePlacesMatchSpec: laid · WirePlacesAreFound: laid · WireCutsMatchSpec: laid · WireBytesComeBack: laid.
  DERIVED. THE GIVEN ROWS OF THIS SEAT. 12 by the template 'for every input the law returns true; each argument reads behind the call as it read before'; 0 by the template 'total and deterministic' (their statements: YteilhjdpbjgdpaaDoorTotals.lean).
  GIVEN WITH THE SEED: the statements are not yours to turn. If you find one false, say at which input.
  Laid BY PROGRAM, IN A SANDBOX (cutbox-rows.mjs): the forced cells as the released guide's own fill.sh prints them over the translation b9d9a2cc94d1d6f0… (all of the seat's roots in one cut). By AI agents, Wed Nov 11 2026. No macro, syntax, notation, axiom, sorry.
-/
import Derived.Test.YteilhjdpbjgdpaaDoorChecked
import GoSem.PinnedTables
import GoSem.Claim
import GoSem.ClaimJoined
import GoSem.ClaimMapViews
import Derived.JoinedTies
import Derived.KernelRfl
namespace Go.Proofs.YteilhjdpbjgdpaaDoor
/- THE CELL 'sum', in the pinned program and in every row, IS THE sha256 OF THE DUMP (.gsa) THAT YteilhjdpbjgdpaaDoorProg.lean LOADS. Nothing in Lean hashes anything: it is a label: what it is worth is what the hold of that sum in a sandbox is worth. -/
noncomputable def Tryd.pinned : Pinned := { name := "yteilhjdpbjgdpaadoor", sum := "b9d9a2cc94d1d6f04e7df7b6ccbda4982735f79c334d657fdfbeec6f3cbda46b", checked := Tryd.checked }
namespace Rows
def none {H : Type} : Left H := { results := [], args := [] }

/- WHAT THE LISTED PACKAGE-LEVEL VARIABLES READ AS WHEN THE CALL BEGINS. Each datum BY PROGRAM (the guide's laid-datum.mjs) off the statement by which the dump's own 'gosem.cut.vars' lays the variable. In a bare row this is a premise. The card (YteilhjdpbjgdpaaDoorCards.lean) ties it to the program's text. -/
def laid_unicode_utf8_acceptRanges {H : Type} : DataW H := .agg [.agg [.lit (.int .u8 128), .lit (.int .u8 191)], .agg [.lit (.int .u8 160), .lit (.int .u8 191)], .agg [.lit (.int .u8 128), .lit (.int .u8 159)], .agg [.lit (.int .u8 144), .lit (.int .u8 191)], .agg [.lit (.int .u8 128), .lit (.int .u8 143)], .agg [.lit (.int .u8 0), .lit (.int .u8 0)], .agg [.lit (.int .u8 0), .lit (.int .u8 0)], .agg [.lit (.int .u8 0), .lit (.int .u8 0)], .agg [.lit (.int .u8 0), .lit (.int .u8 0)], .agg [.lit (.int .u8 0), .lit (.int .u8 0)], .agg [.lit (.int .u8 0), .lit (.int .u8 0)], .agg [.lit (.int .u8 0), .lit (.int .u8 0)], .agg [.lit (.int .u8 0), .lit (.int .u8 0)], .agg [.lit (.int .u8 0), .lit (.int .u8 0)], .agg [.lit (.int .u8 0), .lit (.int .u8 0)], .agg [.lit (.int .u8 0), .lit (.int .u8 0)]]
/-- One of Go's own tables, pinned by name: the form's constant. -/
def laid_unicode_utf8_first : DataW Unit := Go.Pinned.utf8First

/-- 'interchangelaw2.WireHeadingsMatchSpec': WHATEVER THE INPUT: true; the input reads as it did. -/
def wireHeadingsMatchSpecSpec : ChangeSpec := { name := "wireHeadingsMatchSpec", fn := fun _ => fun
  | [d1, d2] => { results := [.lit (.bool true)], args := [d1, d2] }
  | _ => none }
def wireHeadingsMatchSpecRow : OpenClaim := { program := "yteilhjdpbjgdpaadoor", sum := "b9d9a2cc94d1d6f04e7df7b6ccbda4982735f79c334d657fdfbeec6f3cbda46b", func := "interchange/interchangelaw2.WireHeadingsMatchSpec", spec := "wireHeadingsMatchSpec", inPlace := ["internal/bytealg.IndexByteString", "internal/bytealg.IndexString"], named := ["unicode/utf8.first", "unicode/utf8.acceptRanges", "internal/bytealg.MaxLen"], apart := false, laid := [("unicode/utf8.acceptRanges", laid_unicode_utf8_acceptRanges), ("unicode/utf8.first", laid_unicode_utf8_first)] }
def WireHeadingsMatchSpecSaid : Prop := wireHeadingsMatchSpecRow.holds Tryd.pinned (OpenSpec.ofChange wireHeadingsMatchSpecSpec)

/-- ITS FALSE NEIGHBOUR: 'it returns false'. Refute it at one input. -/
def wireHeadingsMatchSpecWrong : ChangeSpec := { name := "wireHeadingsMatchSpec", fn := fun _ => fun
  | [d1, d2] => { results := [.lit (.bool false)], args := [d1, d2] }
  | _ => none }
def WireHeadingsMatchSpecWrongFalsely : Prop := wireHeadingsMatchSpecRow.holds Tryd.pinned (OpenSpec.ofChange wireHeadingsMatchSpecWrong)

/-- 'interchangelaw2.WireChecksMatchSpec': WHATEVER THE INPUT: true; the input reads as it did. -/
def wireChecksMatchSpecSpec : ChangeSpec := { name := "wireChecksMatchSpec", fn := fun _ => fun
  | [d1, d2] => { results := [.lit (.bool true)], args := [d1, d2] }
  | _ => none }
def wireChecksMatchSpecRow : OpenClaim := { program := "yteilhjdpbjgdpaadoor", sum := "b9d9a2cc94d1d6f04e7df7b6ccbda4982735f79c334d657fdfbeec6f3cbda46b", func := "interchange/interchangelaw2.WireChecksMatchSpec", spec := "wireChecksMatchSpec", inPlace := ["internal/bytealg.IndexByteString", "internal/bytealg.IndexString"], named := ["unicode/utf8.first", "unicode/utf8.acceptRanges", "internal/bytealg.MaxLen"], apart := false, laid := [("unicode/utf8.acceptRanges", laid_unicode_utf8_acceptRanges), ("unicode/utf8.first", laid_unicode_utf8_first)] }
def WireChecksMatchSpecSaid : Prop := wireChecksMatchSpecRow.holds Tryd.pinned (OpenSpec.ofChange wireChecksMatchSpecSpec)

/-- ITS FALSE NEIGHBOUR: 'it returns false'. Refute it at one input. -/
def wireChecksMatchSpecWrong : ChangeSpec := { name := "wireChecksMatchSpec", fn := fun _ => fun
  | [d1, d2] => { results := [.lit (.bool false)], args := [d1, d2] }
  | _ => none }
def WireChecksMatchSpecWrongFalsely : Prop := wireChecksMatchSpecRow.holds Tryd.pinned (OpenSpec.ofChange wireChecksMatchSpecWrong)

/-- 'interchangelaw2.WireShortsMatchSpec': WHATEVER THE INPUT: true; the input reads as it did. -/
def wireShortsMatchSpecSpec : ChangeSpec := { name := "wireShortsMatchSpec", fn := fun _ => fun
  | [d] => { results := [.lit (.bool true)], args := [d] }
  | _ => none }
def wireShortsMatchSpecRow : OpenClaim := { program := "yteilhjdpbjgdpaadoor", sum := "b9d9a2cc94d1d6f04e7df7b6ccbda4982735f79c334d657fdfbeec6f3cbda46b", func := "interchange/interchangelaw2.WireShortsMatchSpec", spec := "wireShortsMatchSpec", inPlace := ["internal/bytealg.IndexByteString", "internal/bytealg.IndexString"], named := ["unicode/utf8.first", "unicode/utf8.acceptRanges", "internal/bytealg.MaxLen"], apart := false, laid := [("unicode/utf8.acceptRanges", laid_unicode_utf8_acceptRanges), ("unicode/utf8.first", laid_unicode_utf8_first)] }
def WireShortsMatchSpecSaid : Prop := wireShortsMatchSpecRow.holds Tryd.pinned (OpenSpec.ofChange wireShortsMatchSpecSpec)

/-- ITS FALSE NEIGHBOUR: 'it returns false'. Refute it at one input. -/
def wireShortsMatchSpecWrong : ChangeSpec := { name := "wireShortsMatchSpec", fn := fun _ => fun
  | [d] => { results := [.lit (.bool false)], args := [d] }
  | _ => none }
def WireShortsMatchSpecWrongFalsely : Prop := wireShortsMatchSpecRow.holds Tryd.pinned (OpenSpec.ofChange wireShortsMatchSpecWrong)

/-- 'interchangelaw2.WireBestMatchesSpec': WHATEVER THE INPUT: true; the input reads as it did. -/
def wireBestMatchesSpecSpec : ChangeSpec := { name := "wireBestMatchesSpec", fn := fun _ => fun
  | [d1, d2] => { results := [.lit (.bool true)], args := [d1, d2] }
  | _ => none }
def wireBestMatchesSpecRow : OpenClaim := { program := "yteilhjdpbjgdpaadoor", sum := "b9d9a2cc94d1d6f04e7df7b6ccbda4982735f79c334d657fdfbeec6f3cbda46b", func := "interchange/interchangelaw2.WireBestMatchesSpec", spec := "wireBestMatchesSpec", inPlace := ["internal/bytealg.IndexByteString", "internal/bytealg.IndexString"], named := ["unicode/utf8.first", "unicode/utf8.acceptRanges", "internal/bytealg.MaxLen"], apart := false, laid := [("unicode/utf8.acceptRanges", laid_unicode_utf8_acceptRanges), ("unicode/utf8.first", laid_unicode_utf8_first)] }
def WireBestMatchesSpecSaid : Prop := wireBestMatchesSpecRow.holds Tryd.pinned (OpenSpec.ofChange wireBestMatchesSpecSpec)

/-- ITS FALSE NEIGHBOUR: 'it returns false'. Refute it at one input. -/
def wireBestMatchesSpecWrong : ChangeSpec := { name := "wireBestMatchesSpec", fn := fun _ => fun
  | [d1, d2] => { results := [.lit (.bool false)], args := [d1, d2] }
  | _ => none }
def WireBestMatchesSpecWrongFalsely : Prop := wireBestMatchesSpecRow.holds Tryd.pinned (OpenSpec.ofChange wireBestMatchesSpecWrong)

/-- 'interchangelaw2.WireTextsMatchSpec': WHATEVER THE INPUT: true; the input reads as it did. -/
def wireTextsMatchSpecSpec : ChangeSpec := { name := "wireTextsMatchSpec", fn := fun _ => fun
  | [d1, d2, d3] => { results := [.lit (.bool true)], args := [d1, d2, d3] }
  | _ => none }
def wireTextsMatchSpecRow : OpenClaim := { program := "yteilhjdpbjgdpaadoor", sum := "b9d9a2cc94d1d6f04e7df7b6ccbda4982735f79c334d657fdfbeec6f3cbda46b", func := "interchange/interchangelaw2.WireTextsMatchSpec", spec := "wireTextsMatchSpec", inPlace := ["internal/bytealg.IndexByteString", "internal/bytealg.IndexString"], named := ["unicode/utf8.first", "unicode/utf8.acceptRanges", "internal/bytealg.MaxLen"], apart := false, laid := [("unicode/utf8.acceptRanges", laid_unicode_utf8_acceptRanges), ("unicode/utf8.first", laid_unicode_utf8_first)] }
def WireTextsMatchSpecSaid : Prop := wireTextsMatchSpecRow.holds Tryd.pinned (OpenSpec.ofChange wireTextsMatchSpecSpec)

/-- ITS FALSE NEIGHBOUR: 'it returns false'. Refute it at one input. -/
def wireTextsMatchSpecWrong : ChangeSpec := { name := "wireTextsMatchSpec", fn := fun _ => fun
  | [d1, d2, d3] => { results := [.lit (.bool false)], args := [d1, d2, d3] }
  | _ => none }
def WireTextsMatchSpecWrongFalsely : Prop := wireTextsMatchSpecRow.holds Tryd.pinned (OpenSpec.ofChange wireTextsMatchSpecWrong)

/-- 'interchangelaw2.WirePutsAreFound': WHATEVER THE INPUT: true; the input reads as it did. -/
def wirePutsAreFoundSpec : ChangeSpec := { name := "wirePutsAreFound", fn := fun _ => fun
  | [d1, d2, d3, d4] => { results := [.lit (.bool true)], args := [d1, d2, d3, d4] }
  | _ => none }
def wirePutsAreFoundRow : OpenClaim := { program := "yteilhjdpbjgdpaadoor", sum := "b9d9a2cc94d1d6f04e7df7b6ccbda4982735f79c334d657fdfbeec6f3cbda46b", func := "interchange/interchangelaw2.WirePutsAreFound", spec := "wirePutsAreFound", inPlace := ["internal/bytealg.IndexByteString", "internal/bytealg.IndexString"], named := ["unicode/utf8.first", "unicode/utf8.acceptRanges", "internal/bytealg.MaxLen"], apart := false, laid := [("unicode/utf8.acceptRanges", laid_unicode_utf8_acceptRanges), ("unicode/utf8.first", laid_unicode_utf8_first)] }
def WirePutsAreFoundSaid : Prop := wirePutsAreFoundRow.holds Tryd.pinned (OpenSpec.ofChange wirePutsAreFoundSpec)

/-- ITS FALSE NEIGHBOUR: 'it returns false'. Refute it at one input. -/
def wirePutsAreFoundWrong : ChangeSpec := { name := "wirePutsAreFound", fn := fun _ => fun
  | [d1, d2, d3, d4] => { results := [.lit (.bool false)], args := [d1, d2, d3, d4] }
  | _ => none }
def WirePutsAreFoundWrongFalsely : Prop := wirePutsAreFoundRow.holds Tryd.pinned (OpenSpec.ofChange wirePutsAreFoundWrong)

/-- 'interchangelaw2.WireShortsSayTheSame': WHATEVER THE INPUT: true; the input reads as it did. -/
def wireShortsSayTheSameSpec : ChangeSpec := { name := "wireShortsSayTheSame", fn := fun _ => fun
  | [d1, d2, d3] => { results := [.lit (.bool true)], args := [d1, d2, d3] }
  | _ => none }
def wireShortsSayTheSameRow : OpenClaim := { program := "yteilhjdpbjgdpaadoor", sum := "b9d9a2cc94d1d6f04e7df7b6ccbda4982735f79c334d657fdfbeec6f3cbda46b", func := "interchange/interchangelaw2.WireShortsSayTheSame", spec := "wireShortsSayTheSame", inPlace := ["internal/bytealg.IndexByteString", "internal/bytealg.IndexString"], named := ["unicode/utf8.first", "unicode/utf8.acceptRanges", "internal/bytealg.MaxLen"], apart := false, laid := [("unicode/utf8.acceptRanges", laid_unicode_utf8_acceptRanges), ("unicode/utf8.first", laid_unicode_utf8_first)] }
def WireShortsSayTheSameSaid : Prop := wireShortsSayTheSameRow.holds Tryd.pinned (OpenSpec.ofChange wireShortsSayTheSameSpec)

/-- ITS FALSE NEIGHBOUR: 'it returns false'. Refute it at one input. -/
def wireShortsSayTheSameWrong : ChangeSpec := { name := "wireShortsSayTheSame", fn := fun _ => fun
  | [d1, d2, d3] => { results := [.lit (.bool false)], args := [d1, d2, d3] }
  | _ => none }
def WireShortsSayTheSameWrongFalsely : Prop := wireShortsSayTheSameRow.holds Tryd.pinned (OpenSpec.ofChange wireShortsSayTheSameWrong)

/-- 'interchangelaw2.WireJoinsMatchSpec': WHATEVER THE INPUT: true; the input reads as it did. -/
def wireJoinsMatchSpecSpec : ChangeSpec := { name := "wireJoinsMatchSpec", fn := fun _ => fun
  | [d1, d2, d3] => { results := [.lit (.bool true)], args := [d1, d2, d3] }
  | _ => none }
def wireJoinsMatchSpecRow : OpenClaim := { program := "yteilhjdpbjgdpaadoor", sum := "b9d9a2cc94d1d6f04e7df7b6ccbda4982735f79c334d657fdfbeec6f3cbda46b", func := "interchange/interchangelaw2.WireJoinsMatchSpec", spec := "wireJoinsMatchSpec", inPlace := ["internal/bytealg.IndexByteString", "internal/bytealg.IndexString"], unfollowed := true, recurses := true, named := ["unicode/utf8.first", "unicode/utf8.acceptRanges", "internal/bytealg.MaxLen"], apart := false, laid := [("unicode/utf8.acceptRanges", laid_unicode_utf8_acceptRanges), ("unicode/utf8.first", laid_unicode_utf8_first)] }
def WireJoinsMatchSpecSaid : Prop := wireJoinsMatchSpecRow.holds Tryd.pinned (OpenSpec.ofChange wireJoinsMatchSpecSpec)

/-- ITS FALSE NEIGHBOUR: 'it returns false'. Refute it at one input. -/
def wireJoinsMatchSpecWrong : ChangeSpec := { name := "wireJoinsMatchSpec", fn := fun _ => fun
  | [d1, d2, d3] => { results := [.lit (.bool false)], args := [d1, d2, d3] }
  | _ => none }
def WireJoinsMatchSpecWrongFalsely : Prop := wireJoinsMatchSpecRow.holds Tryd.pinned (OpenSpec.ofChange wireJoinsMatchSpecWrong)

/-- 'interchangelaw2.WirePlacesMatchSpec': WHATEVER THE INPUT: true; the input reads as it did. -/
def wirePlacesMatchSpecSpec : ChangeSpec := { name := "wirePlacesMatchSpec", fn := fun _ => fun
  | [d1, d2, d3, d4, d5, d6] => { results := [.lit (.bool true)], args := [d1, d2, d3, d4, d5, d6] }
  | _ => none }
def wirePlacesMatchSpecRow : OpenClaim := { program := "yteilhjdpbjgdpaadoor", sum := "b9d9a2cc94d1d6f04e7df7b6ccbda4982735f79c334d657fdfbeec6f3cbda46b", func := "interchange/interchangelaw2.WirePlacesMatchSpec", spec := "wirePlacesMatchSpec", inPlace := ["internal/bytealg.IndexByteString", "internal/bytealg.IndexString"], unfollowed := true, recurses := true, named := ["unicode/utf8.first", "unicode/utf8.acceptRanges", "internal/bytealg.MaxLen"], apart := false, laid := [("unicode/utf8.acceptRanges", laid_unicode_utf8_acceptRanges), ("unicode/utf8.first", laid_unicode_utf8_first)] }
def WirePlacesMatchSpecSaid : Prop := wirePlacesMatchSpecRow.holds Tryd.pinned (OpenSpec.ofChange wirePlacesMatchSpecSpec)

/-- ITS FALSE NEIGHBOUR: 'it returns false'. Refute it at one input. -/
def wirePlacesMatchSpecWrong : ChangeSpec := { name := "wirePlacesMatchSpec", fn := fun _ => fun
  | [d1, d2, d3, d4, d5, d6] => { results := [.lit (.bool false)], args := [d1, d2, d3, d4, d5, d6] }
  | _ => none }
def WirePlacesMatchSpecWrongFalsely : Prop := wirePlacesMatchSpecRow.holds Tryd.pinned (OpenSpec.ofChange wirePlacesMatchSpecWrong)

/-- 'interchangelaw2.WirePlacesAreFound': WHATEVER THE INPUT: true; the input reads as it did. -/
def wirePlacesAreFoundSpec : ChangeSpec := { name := "wirePlacesAreFound", fn := fun _ => fun
  | [d1, d2, d3, d4, d5] => { results := [.lit (.bool true)], args := [d1, d2, d3, d4, d5] }
  | _ => none }
def wirePlacesAreFoundRow : OpenClaim := { program := "yteilhjdpbjgdpaadoor", sum := "b9d9a2cc94d1d6f04e7df7b6ccbda4982735f79c334d657fdfbeec6f3cbda46b", func := "interchange/interchangelaw2.WirePlacesAreFound", spec := "wirePlacesAreFound", inPlace := ["internal/bytealg.IndexByteString", "internal/bytealg.IndexString"], unfollowed := true, recurses := true, named := ["unicode/utf8.first", "unicode/utf8.acceptRanges", "internal/bytealg.MaxLen"], apart := false, laid := [("unicode/utf8.acceptRanges", laid_unicode_utf8_acceptRanges), ("unicode/utf8.first", laid_unicode_utf8_first)] }
def WirePlacesAreFoundSaid : Prop := wirePlacesAreFoundRow.holds Tryd.pinned (OpenSpec.ofChange wirePlacesAreFoundSpec)

/-- ITS FALSE NEIGHBOUR: 'it returns false'. Refute it at one input. -/
def wirePlacesAreFoundWrong : ChangeSpec := { name := "wirePlacesAreFound", fn := fun _ => fun
  | [d1, d2, d3, d4, d5] => { results := [.lit (.bool false)], args := [d1, d2, d3, d4, d5] }
  | _ => none }
def WirePlacesAreFoundWrongFalsely : Prop := wirePlacesAreFoundRow.holds Tryd.pinned (OpenSpec.ofChange wirePlacesAreFoundWrong)

/-- 'interchangelaw2.WireCutsMatchSpec': WHATEVER THE INPUT: true; the input reads as it did. -/
def wireCutsMatchSpecSpec : ChangeSpec := { name := "wireCutsMatchSpec", fn := fun _ => fun
  | [d1, d2] => { results := [.lit (.bool true)], args := [d1, d2] }
  | _ => none }
def wireCutsMatchSpecRow : OpenClaim := { program := "yteilhjdpbjgdpaadoor", sum := "b9d9a2cc94d1d6f04e7df7b6ccbda4982735f79c334d657fdfbeec6f3cbda46b", func := "interchange/interchangelaw2.WireCutsMatchSpec", spec := "wireCutsMatchSpec", inPlace := ["internal/bytealg.IndexByteString", "internal/bytealg.IndexString", "internal/bytealg.IndexByte", "internal/bytealg.Index"], named := ["unicode/utf8.first", "unicode/utf8.acceptRanges", "internal/bytealg.MaxLen"], apart := false, laid := [("unicode/utf8.acceptRanges", laid_unicode_utf8_acceptRanges), ("unicode/utf8.first", laid_unicode_utf8_first)] }
def WireCutsMatchSpecSaid : Prop := wireCutsMatchSpecRow.holds Tryd.pinned (OpenSpec.ofChange wireCutsMatchSpecSpec)

/-- ITS FALSE NEIGHBOUR: 'it returns false'. Refute it at one input. -/
def wireCutsMatchSpecWrong : ChangeSpec := { name := "wireCutsMatchSpec", fn := fun _ => fun
  | [d1, d2] => { results := [.lit (.bool false)], args := [d1, d2] }
  | _ => none }
def WireCutsMatchSpecWrongFalsely : Prop := wireCutsMatchSpecRow.holds Tryd.pinned (OpenSpec.ofChange wireCutsMatchSpecWrong)

/-- 'interchangelaw2.WireBytesComeBack': WHATEVER THE INPUT: true; the input reads as it did. -/
def wireBytesComeBackSpec : ChangeSpec := { name := "wireBytesComeBack", fn := fun _ => fun
  | [d1, d2, d3, d4] => { results := [.lit (.bool true)], args := [d1, d2, d3, d4] }
  | _ => none }
def wireBytesComeBackRow : OpenClaim := { program := "yteilhjdpbjgdpaadoor", sum := "b9d9a2cc94d1d6f04e7df7b6ccbda4982735f79c334d657fdfbeec6f3cbda46b", func := "interchange/interchangelaw2.WireBytesComeBack", spec := "wireBytesComeBack", inPlace := ["internal/bytealg.IndexByteString", "internal/bytealg.IndexString", "internal/bytealg.IndexByte", "internal/bytealg.Index"], unfollowed := true, recurses := true, named := ["unicode/utf8.first", "unicode/utf8.acceptRanges", "internal/bytealg.MaxLen"], apart := false, laid := [("unicode/utf8.acceptRanges", laid_unicode_utf8_acceptRanges), ("unicode/utf8.first", laid_unicode_utf8_first)] }
def WireBytesComeBackSaid : Prop := wireBytesComeBackRow.holds Tryd.pinned (OpenSpec.ofChange wireBytesComeBackSpec)

/-- ITS FALSE NEIGHBOUR: 'it returns false'. Refute it at one input. -/
def wireBytesComeBackWrong : ChangeSpec := { name := "wireBytesComeBack", fn := fun _ => fun
  | [d1, d2, d3, d4] => { results := [.lit (.bool false)], args := [d1, d2, d3, d4] }
  | _ => none }
def WireBytesComeBackWrongFalsely : Prop := wireBytesComeBackRow.holds Tryd.pinned (OpenSpec.ofChange wireBytesComeBackWrong)

/- THE SECOND FORM. 'bulk': how many values and letters a reading holds, each counted each time it is reached (what is shared counts as often as it is met; a slice's spare places count too). A statement '..UptoSaid' is the law's where the arguments, and the package variables that the reading takes, are together of bulk at most 1048576: NARROWER than '..Said'. Prove '..Said' where nothing that the law and all that it calls make is longer than what came in: it says more and counts as full. Else prove '..UptoSaid'. A law counts once. -/
mutual
def uptoBulk {H : Type} : DataW H → Nat
  | .lit (.string bytes) => bytes.length + 1
  | .lit _ => 1
  | .nil => 1
  | .ptr d => uptoBulk d + 1
  | .slice elems spare => uptoBulkAll elems + uptoBulkAll spare + 1
  | .agg parts => uptoBulkAll parts + 1
  | .iface _ d => uptoBulk d + 1
  | .map entries => uptoBulkEntries entries + 1
  | .held _ => 1
def uptoBulkAll {H : Type} : List (DataW H) → Nat
  | [] => 0
  | d :: r => uptoBulk d + uptoBulkAll r
def uptoBulkEntries {H : Type} : List (Lit × DataW H) → Nat
  | [] => 0
  | x :: r => uptoBulkEntry x + uptoBulkEntries r
def uptoBulkEntry {H : Type} : Lit × DataW H → Nat
  | (.string bytes, d) => bytes.length + uptoBulk d + 1
  | (_, d) => uptoBulk d + 1
 end
def uptoSmall : (H : Type) → List (DataW H) → Bool := fun _ ds => decide (uptoBulkAll ds ≤ 1048576)
def OpenSpec.upto (s : _root_.Go.ChangeSpec) : _root_.Go.OpenSpec := { _root_.Go.OpenSpec.ofChange s with cond := some uptoSmall }

/-- 'interchangelaw2.WireHeadingsMatchSpec', WHERE WHAT IT READS IS OF BULK AT MOST 1048576: true; the input reads as it did. -/
def wireHeadingsMatchSpecUptoRow : OpenClaim := { program := "yteilhjdpbjgdpaadoor", sum := "b9d9a2cc94d1d6f04e7df7b6ccbda4982735f79c334d657fdfbeec6f3cbda46b", func := "interchange/interchangelaw2.WireHeadingsMatchSpec", spec := "wireHeadingsMatchSpec", inPlace := ["internal/bytealg.IndexByteString", "internal/bytealg.IndexString"], named := ["unicode/utf8.first", "unicode/utf8.acceptRanges", "internal/bytealg.MaxLen"], apart := false, laid := [("unicode/utf8.acceptRanges", laid_unicode_utf8_acceptRanges), ("unicode/utf8.first", laid_unicode_utf8_first)], narrowed := true }
def WireHeadingsMatchSpecUptoSaid : Prop := wireHeadingsMatchSpecUptoRow.holds Tryd.pinned (OpenSpec.upto wireHeadingsMatchSpecSpec)

/-- 'interchangelaw2.WireChecksMatchSpec', WHERE WHAT IT READS IS OF BULK AT MOST 1048576: true; the input reads as it did. -/
def wireChecksMatchSpecUptoRow : OpenClaim := { program := "yteilhjdpbjgdpaadoor", sum := "b9d9a2cc94d1d6f04e7df7b6ccbda4982735f79c334d657fdfbeec6f3cbda46b", func := "interchange/interchangelaw2.WireChecksMatchSpec", spec := "wireChecksMatchSpec", inPlace := ["internal/bytealg.IndexByteString", "internal/bytealg.IndexString"], named := ["unicode/utf8.first", "unicode/utf8.acceptRanges", "internal/bytealg.MaxLen"], apart := false, laid := [("unicode/utf8.acceptRanges", laid_unicode_utf8_acceptRanges), ("unicode/utf8.first", laid_unicode_utf8_first)], narrowed := true }
def WireChecksMatchSpecUptoSaid : Prop := wireChecksMatchSpecUptoRow.holds Tryd.pinned (OpenSpec.upto wireChecksMatchSpecSpec)

/-- 'interchangelaw2.WireShortsMatchSpec', WHERE WHAT IT READS IS OF BULK AT MOST 1048576: true; the input reads as it did. -/
def wireShortsMatchSpecUptoRow : OpenClaim := { program := "yteilhjdpbjgdpaadoor", sum := "b9d9a2cc94d1d6f04e7df7b6ccbda4982735f79c334d657fdfbeec6f3cbda46b", func := "interchange/interchangelaw2.WireShortsMatchSpec", spec := "wireShortsMatchSpec", inPlace := ["internal/bytealg.IndexByteString", "internal/bytealg.IndexString"], named := ["unicode/utf8.first", "unicode/utf8.acceptRanges", "internal/bytealg.MaxLen"], apart := false, laid := [("unicode/utf8.acceptRanges", laid_unicode_utf8_acceptRanges), ("unicode/utf8.first", laid_unicode_utf8_first)], narrowed := true }
def WireShortsMatchSpecUptoSaid : Prop := wireShortsMatchSpecUptoRow.holds Tryd.pinned (OpenSpec.upto wireShortsMatchSpecSpec)

/-- 'interchangelaw2.WireBestMatchesSpec', WHERE WHAT IT READS IS OF BULK AT MOST 1048576: true; the input reads as it did. -/
def wireBestMatchesSpecUptoRow : OpenClaim := { program := "yteilhjdpbjgdpaadoor", sum := "b9d9a2cc94d1d6f04e7df7b6ccbda4982735f79c334d657fdfbeec6f3cbda46b", func := "interchange/interchangelaw2.WireBestMatchesSpec", spec := "wireBestMatchesSpec", inPlace := ["internal/bytealg.IndexByteString", "internal/bytealg.IndexString"], named := ["unicode/utf8.first", "unicode/utf8.acceptRanges", "internal/bytealg.MaxLen"], apart := false, laid := [("unicode/utf8.acceptRanges", laid_unicode_utf8_acceptRanges), ("unicode/utf8.first", laid_unicode_utf8_first)], narrowed := true }
def WireBestMatchesSpecUptoSaid : Prop := wireBestMatchesSpecUptoRow.holds Tryd.pinned (OpenSpec.upto wireBestMatchesSpecSpec)

/-- 'interchangelaw2.WireTextsMatchSpec', WHERE WHAT IT READS IS OF BULK AT MOST 1048576: true; the input reads as it did. -/
def wireTextsMatchSpecUptoRow : OpenClaim := { program := "yteilhjdpbjgdpaadoor", sum := "b9d9a2cc94d1d6f04e7df7b6ccbda4982735f79c334d657fdfbeec6f3cbda46b", func := "interchange/interchangelaw2.WireTextsMatchSpec", spec := "wireTextsMatchSpec", inPlace := ["internal/bytealg.IndexByteString", "internal/bytealg.IndexString"], named := ["unicode/utf8.first", "unicode/utf8.acceptRanges", "internal/bytealg.MaxLen"], apart := false, laid := [("unicode/utf8.acceptRanges", laid_unicode_utf8_acceptRanges), ("unicode/utf8.first", laid_unicode_utf8_first)], narrowed := true }
def WireTextsMatchSpecUptoSaid : Prop := wireTextsMatchSpecUptoRow.holds Tryd.pinned (OpenSpec.upto wireTextsMatchSpecSpec)

/-- 'interchangelaw2.WirePutsAreFound', WHERE WHAT IT READS IS OF BULK AT MOST 1048576: true; the input reads as it did. -/
def wirePutsAreFoundUptoRow : OpenClaim := { program := "yteilhjdpbjgdpaadoor", sum := "b9d9a2cc94d1d6f04e7df7b6ccbda4982735f79c334d657fdfbeec6f3cbda46b", func := "interchange/interchangelaw2.WirePutsAreFound", spec := "wirePutsAreFound", inPlace := ["internal/bytealg.IndexByteString", "internal/bytealg.IndexString"], named := ["unicode/utf8.first", "unicode/utf8.acceptRanges", "internal/bytealg.MaxLen"], apart := false, laid := [("unicode/utf8.acceptRanges", laid_unicode_utf8_acceptRanges), ("unicode/utf8.first", laid_unicode_utf8_first)], narrowed := true }
def WirePutsAreFoundUptoSaid : Prop := wirePutsAreFoundUptoRow.holds Tryd.pinned (OpenSpec.upto wirePutsAreFoundSpec)

/-- 'interchangelaw2.WireShortsSayTheSame', WHERE WHAT IT READS IS OF BULK AT MOST 1048576: true; the input reads as it did. -/
def wireShortsSayTheSameUptoRow : OpenClaim := { program := "yteilhjdpbjgdpaadoor", sum := "b9d9a2cc94d1d6f04e7df7b6ccbda4982735f79c334d657fdfbeec6f3cbda46b", func := "interchange/interchangelaw2.WireShortsSayTheSame", spec := "wireShortsSayTheSame", inPlace := ["internal/bytealg.IndexByteString", "internal/bytealg.IndexString"], named := ["unicode/utf8.first", "unicode/utf8.acceptRanges", "internal/bytealg.MaxLen"], apart := false, laid := [("unicode/utf8.acceptRanges", laid_unicode_utf8_acceptRanges), ("unicode/utf8.first", laid_unicode_utf8_first)], narrowed := true }
def WireShortsSayTheSameUptoSaid : Prop := wireShortsSayTheSameUptoRow.holds Tryd.pinned (OpenSpec.upto wireShortsSayTheSameSpec)

/-- 'interchangelaw2.WireJoinsMatchSpec', WHERE WHAT IT READS IS OF BULK AT MOST 1048576: true; the input reads as it did. -/
def wireJoinsMatchSpecUptoRow : OpenClaim := { program := "yteilhjdpbjgdpaadoor", sum := "b9d9a2cc94d1d6f04e7df7b6ccbda4982735f79c334d657fdfbeec6f3cbda46b", func := "interchange/interchangelaw2.WireJoinsMatchSpec", spec := "wireJoinsMatchSpec", inPlace := ["internal/bytealg.IndexByteString", "internal/bytealg.IndexString"], unfollowed := true, recurses := true, named := ["unicode/utf8.first", "unicode/utf8.acceptRanges", "internal/bytealg.MaxLen"], apart := false, laid := [("unicode/utf8.acceptRanges", laid_unicode_utf8_acceptRanges), ("unicode/utf8.first", laid_unicode_utf8_first)], narrowed := true }
def WireJoinsMatchSpecUptoSaid : Prop := wireJoinsMatchSpecUptoRow.holds Tryd.pinned (OpenSpec.upto wireJoinsMatchSpecSpec)

/-- 'interchangelaw2.WirePlacesMatchSpec', WHERE WHAT IT READS IS OF BULK AT MOST 1048576: true; the input reads as it did. -/
def wirePlacesMatchSpecUptoRow : OpenClaim := { program := "yteilhjdpbjgdpaadoor", sum := "b9d9a2cc94d1d6f04e7df7b6ccbda4982735f79c334d657fdfbeec6f3cbda46b", func := "interchange/interchangelaw2.WirePlacesMatchSpec", spec := "wirePlacesMatchSpec", inPlace := ["internal/bytealg.IndexByteString", "internal/bytealg.IndexString"], unfollowed := true, recurses := true, named := ["unicode/utf8.first", "unicode/utf8.acceptRanges", "internal/bytealg.MaxLen"], apart := false, laid := [("unicode/utf8.acceptRanges", laid_unicode_utf8_acceptRanges), ("unicode/utf8.first", laid_unicode_utf8_first)], narrowed := true }
def WirePlacesMatchSpecUptoSaid : Prop := wirePlacesMatchSpecUptoRow.holds Tryd.pinned (OpenSpec.upto wirePlacesMatchSpecSpec)

/-- 'interchangelaw2.WirePlacesAreFound', WHERE WHAT IT READS IS OF BULK AT MOST 1048576: true; the input reads as it did. -/
def wirePlacesAreFoundUptoRow : OpenClaim := { program := "yteilhjdpbjgdpaadoor", sum := "b9d9a2cc94d1d6f04e7df7b6ccbda4982735f79c334d657fdfbeec6f3cbda46b", func := "interchange/interchangelaw2.WirePlacesAreFound", spec := "wirePlacesAreFound", inPlace := ["internal/bytealg.IndexByteString", "internal/bytealg.IndexString"], unfollowed := true, recurses := true, named := ["unicode/utf8.first", "unicode/utf8.acceptRanges", "internal/bytealg.MaxLen"], apart := false, laid := [("unicode/utf8.acceptRanges", laid_unicode_utf8_acceptRanges), ("unicode/utf8.first", laid_unicode_utf8_first)], narrowed := true }
def WirePlacesAreFoundUptoSaid : Prop := wirePlacesAreFoundUptoRow.holds Tryd.pinned (OpenSpec.upto wirePlacesAreFoundSpec)

/-- 'interchangelaw2.WireCutsMatchSpec', WHERE WHAT IT READS IS OF BULK AT MOST 1048576: true; the input reads as it did. -/
def wireCutsMatchSpecUptoRow : OpenClaim := { program := "yteilhjdpbjgdpaadoor", sum := "b9d9a2cc94d1d6f04e7df7b6ccbda4982735f79c334d657fdfbeec6f3cbda46b", func := "interchange/interchangelaw2.WireCutsMatchSpec", spec := "wireCutsMatchSpec", inPlace := ["internal/bytealg.IndexByteString", "internal/bytealg.IndexString", "internal/bytealg.IndexByte", "internal/bytealg.Index"], named := ["unicode/utf8.first", "unicode/utf8.acceptRanges", "internal/bytealg.MaxLen"], apart := false, laid := [("unicode/utf8.acceptRanges", laid_unicode_utf8_acceptRanges), ("unicode/utf8.first", laid_unicode_utf8_first)], narrowed := true }
def WireCutsMatchSpecUptoSaid : Prop := wireCutsMatchSpecUptoRow.holds Tryd.pinned (OpenSpec.upto wireCutsMatchSpecSpec)

/-- 'interchangelaw2.WireBytesComeBack', WHERE WHAT IT READS IS OF BULK AT MOST 1048576: true; the input reads as it did. -/
def wireBytesComeBackUptoRow : OpenClaim := { program := "yteilhjdpbjgdpaadoor", sum := "b9d9a2cc94d1d6f04e7df7b6ccbda4982735f79c334d657fdfbeec6f3cbda46b", func := "interchange/interchangelaw2.WireBytesComeBack", spec := "wireBytesComeBack", inPlace := ["internal/bytealg.IndexByteString", "internal/bytealg.IndexString", "internal/bytealg.IndexByte", "internal/bytealg.Index"], unfollowed := true, recurses := true, named := ["unicode/utf8.first", "unicode/utf8.acceptRanges", "internal/bytealg.MaxLen"], apart := false, laid := [("unicode/utf8.acceptRanges", laid_unicode_utf8_acceptRanges), ("unicode/utf8.first", laid_unicode_utf8_first)], narrowed := true }
def WireBytesComeBackUptoSaid : Prop := wireBytesComeBackUptoRow.holds Tryd.pinned (OpenSpec.upto wireBytesComeBackSpec)

end Rows
end Go.Proofs.YteilhjdpbjgdpaaDoor
