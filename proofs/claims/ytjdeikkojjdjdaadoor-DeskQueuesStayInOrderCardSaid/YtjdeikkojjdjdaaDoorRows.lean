/-
  NARROWER THAN 'FOR EVERY INPUT', by the rows' own cells (each row's printed sentence says how): DeskOutboxMatchesSpec: laid · DeskGivesUpLast: laid · DeskPendingMatchesSpec: laid · DeskQueuesStayInOrder: laid.
  DERIVED. THE GIVEN ROWS OF THIS SEAT. 4 by the template 'for every input the law returns true; each argument reads behind the call as it read before'; 0 by the template 'total and deterministic' (their statements: YtjdeikkojjdjdaaDoorTotals.lean).
  GIVEN WITH THE SEED: the statements are not yours to turn. If you find one false, say at which input.
  Laid BY PROGRAM, IN A SANDBOX (cutbox-rows.mjs): the forced cells as the released guide's own fill.sh prints them over the translation 02b00079bffcd22f… (all of the seat's roots in one cut). By AI agents, Wed Nov 11 2026. No macro, syntax, notation, axiom, sorry.
-/
import Derived.Test.YtjdeikkojjdjdaaDoorChecked
import GoSem.PinnedTables
import GoSem.Claim
import GoSem.ClaimJoined
import GoSem.ClaimMapViews
import Derived.JoinedTies
import Derived.KernelRfl
namespace Go.Proofs.YtjdeikkojjdjdaaDoor
/- THE CELL 'sum', in the pinned program and in every row, IS THE sha256 OF THE DUMP (.gsa) THAT YtjdeikkojjdjdaaDoorProg.lean LOADS. Nothing in Lean hashes anything: it is a label: what it is worth is what the hold of that sum in a sandbox is worth. -/
noncomputable def Tryd.pinned : Pinned := { name := "ytjdeikkojjdjdaadoor", sum := "02b00079bffcd22fe74b73469caf9bfd248b7ac5d2488e6d88e1a617b6f1ea90", checked := Tryd.checked }
namespace Rows
def none {H : Type} : Left H := { results := [], args := [] }

/- WHAT THE LISTED PACKAGE-LEVEL VARIABLES READ AS WHEN THE CALL BEGINS. Each datum BY PROGRAM (the guide's laid-datum.mjs) off the statement by which the dump's own 'gosem.cut.vars' lays the variable. In a bare row this is a premise. The card (YtjdeikkojjdjdaaDoorCards.lean) ties it to the program's text. -/
def laid_unicode_utf8_acceptRanges {H : Type} : DataW H := .agg [.agg [.lit (.int .u8 128), .lit (.int .u8 191)], .agg [.lit (.int .u8 160), .lit (.int .u8 191)], .agg [.lit (.int .u8 128), .lit (.int .u8 159)], .agg [.lit (.int .u8 144), .lit (.int .u8 191)], .agg [.lit (.int .u8 128), .lit (.int .u8 143)], .agg [.lit (.int .u8 0), .lit (.int .u8 0)], .agg [.lit (.int .u8 0), .lit (.int .u8 0)], .agg [.lit (.int .u8 0), .lit (.int .u8 0)], .agg [.lit (.int .u8 0), .lit (.int .u8 0)], .agg [.lit (.int .u8 0), .lit (.int .u8 0)], .agg [.lit (.int .u8 0), .lit (.int .u8 0)], .agg [.lit (.int .u8 0), .lit (.int .u8 0)], .agg [.lit (.int .u8 0), .lit (.int .u8 0)], .agg [.lit (.int .u8 0), .lit (.int .u8 0)], .agg [.lit (.int .u8 0), .lit (.int .u8 0)], .agg [.lit (.int .u8 0), .lit (.int .u8 0)]]
/-- One of Go's own tables, pinned by name: the form's constant. -/
def laid_unicode_utf8_first : DataW Unit := Go.Pinned.utf8First

/-- 'interchangelaw12.DeskOutboxMatchesSpec': WHATEVER THE INPUT: true; the input reads as it did. -/
def deskOutboxMatchesSpecSpec : ChangeSpec := { name := "deskOutboxMatchesSpec", fn := fun _ => fun
  | [d1, d2, d3] => { results := [.lit (.bool true)], args := [d1, d2, d3] }
  | _ => none }
def deskOutboxMatchesSpecRow : OpenClaim := { program := "ytjdeikkojjdjdaadoor", sum := "02b00079bffcd22fe74b73469caf9bfd248b7ac5d2488e6d88e1a617b6f1ea90", func := "interchange/interchangelaw12.DeskOutboxMatchesSpec", spec := "deskOutboxMatchesSpec", inPlace := ["internal/bytealg.IndexByteString", "internal/bytealg.IndexString"], unfollowed := true, recurses := true, named := ["unicode/utf8.first", "unicode/utf8.acceptRanges", "internal/bytealg.MaxLen"], apart := false, laid := [("unicode/utf8.acceptRanges", laid_unicode_utf8_acceptRanges), ("unicode/utf8.first", laid_unicode_utf8_first)] }
def DeskOutboxMatchesSpecSaid : Prop := deskOutboxMatchesSpecRow.holds Tryd.pinned (OpenSpec.ofChange deskOutboxMatchesSpecSpec)

/-- ITS FALSE NEIGHBOUR: 'it returns false'. Refute it at one input. -/
def deskOutboxMatchesSpecWrong : ChangeSpec := { name := "deskOutboxMatchesSpec", fn := fun _ => fun
  | [d1, d2, d3] => { results := [.lit (.bool false)], args := [d1, d2, d3] }
  | _ => none }
def DeskOutboxMatchesSpecWrongFalsely : Prop := deskOutboxMatchesSpecRow.holds Tryd.pinned (OpenSpec.ofChange deskOutboxMatchesSpecWrong)

/-- 'interchangelaw12.DeskGivesUpLast': WHATEVER THE INPUT: true; the input reads as it did. -/
def deskGivesUpLastSpec : ChangeSpec := { name := "deskGivesUpLast", fn := fun _ => fun
  | [d1, d2, d3] => { results := [.lit (.bool true)], args := [d1, d2, d3] }
  | _ => none }
def deskGivesUpLastRow : OpenClaim := { program := "ytjdeikkojjdjdaadoor", sum := "02b00079bffcd22fe74b73469caf9bfd248b7ac5d2488e6d88e1a617b6f1ea90", func := "interchange/interchangelaw12.DeskGivesUpLast", spec := "deskGivesUpLast", inPlace := ["internal/bytealg.IndexByteString", "internal/bytealg.IndexString"], unfollowed := true, recurses := true, named := ["unicode/utf8.first", "unicode/utf8.acceptRanges", "internal/bytealg.MaxLen"], apart := false, laid := [("unicode/utf8.acceptRanges", laid_unicode_utf8_acceptRanges), ("unicode/utf8.first", laid_unicode_utf8_first)] }
def DeskGivesUpLastSaid : Prop := deskGivesUpLastRow.holds Tryd.pinned (OpenSpec.ofChange deskGivesUpLastSpec)

/-- ITS FALSE NEIGHBOUR: 'it returns false'. Refute it at one input. -/
def deskGivesUpLastWrong : ChangeSpec := { name := "deskGivesUpLast", fn := fun _ => fun
  | [d1, d2, d3] => { results := [.lit (.bool false)], args := [d1, d2, d3] }
  | _ => none }
def DeskGivesUpLastWrongFalsely : Prop := deskGivesUpLastRow.holds Tryd.pinned (OpenSpec.ofChange deskGivesUpLastWrong)

/-- 'interchangelaw12.DeskPendingMatchesSpec': WHATEVER THE INPUT: true; the input reads as it did. -/
def deskPendingMatchesSpecSpec : ChangeSpec := { name := "deskPendingMatchesSpec", fn := fun _ => fun
  | [d1, d2, d3, d4] => { results := [.lit (.bool true)], args := [d1, d2, d3, d4] }
  | _ => none }
def deskPendingMatchesSpecRow : OpenClaim := { program := "ytjdeikkojjdjdaadoor", sum := "02b00079bffcd22fe74b73469caf9bfd248b7ac5d2488e6d88e1a617b6f1ea90", func := "interchange/interchangelaw12.DeskPendingMatchesSpec", spec := "deskPendingMatchesSpec", inPlace := ["internal/bytealg.IndexByteString", "internal/bytealg.IndexString"], unfollowed := true, recurses := true, named := ["unicode/utf8.first", "unicode/utf8.acceptRanges", "internal/bytealg.MaxLen"], apart := false, laid := [("unicode/utf8.acceptRanges", laid_unicode_utf8_acceptRanges), ("unicode/utf8.first", laid_unicode_utf8_first)] }
def DeskPendingMatchesSpecSaid : Prop := deskPendingMatchesSpecRow.holds Tryd.pinned (OpenSpec.ofChange deskPendingMatchesSpecSpec)

/-- ITS FALSE NEIGHBOUR: 'it returns false'. Refute it at one input. -/
def deskPendingMatchesSpecWrong : ChangeSpec := { name := "deskPendingMatchesSpec", fn := fun _ => fun
  | [d1, d2, d3, d4] => { results := [.lit (.bool false)], args := [d1, d2, d3, d4] }
  | _ => none }
def DeskPendingMatchesSpecWrongFalsely : Prop := deskPendingMatchesSpecRow.holds Tryd.pinned (OpenSpec.ofChange deskPendingMatchesSpecWrong)

/-- 'interchangelaw12.DeskQueuesStayInOrder': WHATEVER THE INPUT: true; the input reads as it did. -/
def deskQueuesStayInOrderSpec : ChangeSpec := { name := "deskQueuesStayInOrder", fn := fun _ => fun
  | [d1, d2, d3, d4, d5] => { results := [.lit (.bool true)], args := [d1, d2, d3, d4, d5] }
  | _ => none }
def deskQueuesStayInOrderRow : OpenClaim := { program := "ytjdeikkojjdjdaadoor", sum := "02b00079bffcd22fe74b73469caf9bfd248b7ac5d2488e6d88e1a617b6f1ea90", func := "interchange/interchangelaw12.DeskQueuesStayInOrder", spec := "deskQueuesStayInOrder", inPlace := ["internal/bytealg.IndexByteString", "internal/bytealg.IndexString"], unfollowed := true, recurses := true, named := ["unicode/utf8.first", "unicode/utf8.acceptRanges", "internal/bytealg.MaxLen"], apart := false, laid := [("unicode/utf8.acceptRanges", laid_unicode_utf8_acceptRanges), ("unicode/utf8.first", laid_unicode_utf8_first)] }
def DeskQueuesStayInOrderSaid : Prop := deskQueuesStayInOrderRow.holds Tryd.pinned (OpenSpec.ofChange deskQueuesStayInOrderSpec)

/-- ITS FALSE NEIGHBOUR: 'it returns false'. Refute it at one input. -/
def deskQueuesStayInOrderWrong : ChangeSpec := { name := "deskQueuesStayInOrder", fn := fun _ => fun
  | [d1, d2, d3, d4, d5] => { results := [.lit (.bool false)], args := [d1, d2, d3, d4, d5] }
  | _ => none }
def DeskQueuesStayInOrderWrongFalsely : Prop := deskQueuesStayInOrderRow.holds Tryd.pinned (OpenSpec.ofChange deskQueuesStayInOrderWrong)

/- THE SECOND FORM. 'bulk': how many values and letters a reading holds, each counted each time it is reached (what is shared counts as often as it is met; a slice's spare places count too). A statement '..UptoSaid' is the law's where the arguments, and the package variables that the reading takes, are together of bulk at most 1048576: NARROWER than '..Said'. Prove '..Said' where nothing that the law and all that it calls make is longer than what came in: it says more and counts as full. Else prove '..UptoSaid'. A law counts once. -/
mutual
def uptoBulk {H : Type} : DataW H → Nat
  | .lit (.string bytes) => bytes.length + 1
  | .lit _ => 1
  | .nil => 1
  | .ptr d => uptoBulk d + 1
  | .slice elems spare => uptoBulkAll elems + uptoBulkAll spare + 1
  | .agg parts => uptoBulkAll parts + 1
  | .iface _ d => uptoBulk d + 1
  | .map entries => uptoBulkEntries entries + 1
  | .held _ => 1
def uptoBulkAll {H : Type} : List (DataW H) → Nat
  | [] => 0
  | d :: r => uptoBulk d + uptoBulkAll r
def uptoBulkEntries {H : Type} : List (Lit × DataW H) → Nat
  | [] => 0
  | x :: r => uptoBulkEntry x + uptoBulkEntries r
def uptoBulkEntry {H : Type} : Lit × DataW H → Nat
  | (.string bytes, d) => bytes.length + uptoBulk d + 1
  | (_, d) => uptoBulk d + 1
 end
def uptoSmall : (H : Type) → List (DataW H) → Bool := fun _ ds => decide (uptoBulkAll ds ≤ 1048576)
def OpenSpec.upto (s : _root_.Go.ChangeSpec) : _root_.Go.OpenSpec := { _root_.Go.OpenSpec.ofChange s with cond := some uptoSmall }

/-- 'interchangelaw12.DeskOutboxMatchesSpec', WHERE WHAT IT READS IS OF BULK AT MOST 1048576: true; the input reads as it did. -/
def deskOutboxMatchesSpecUptoRow : OpenClaim := { program := "ytjdeikkojjdjdaadoor", sum := "02b00079bffcd22fe74b73469caf9bfd248b7ac5d2488e6d88e1a617b6f1ea90", func := "interchange/interchangelaw12.DeskOutboxMatchesSpec", spec := "deskOutboxMatchesSpec", inPlace := ["internal/bytealg.IndexByteString", "internal/bytealg.IndexString"], unfollowed := true, recurses := true, named := ["unicode/utf8.first", "unicode/utf8.acceptRanges", "internal/bytealg.MaxLen"], apart := false, laid := [("unicode/utf8.acceptRanges", laid_unicode_utf8_acceptRanges), ("unicode/utf8.first", laid_unicode_utf8_first)], narrowed := true }
def DeskOutboxMatchesSpecUptoSaid : Prop := deskOutboxMatchesSpecUptoRow.holds Tryd.pinned (OpenSpec.upto deskOutboxMatchesSpecSpec)

/-- 'interchangelaw12.DeskGivesUpLast', WHERE WHAT IT READS IS OF BULK AT MOST 1048576: true; the input reads as it did. -/
def deskGivesUpLastUptoRow : OpenClaim := { program := "ytjdeikkojjdjdaadoor", sum := "02b00079bffcd22fe74b73469caf9bfd248b7ac5d2488e6d88e1a617b6f1ea90", func := "interchange/interchangelaw12.DeskGivesUpLast", spec := "deskGivesUpLast", inPlace := ["internal/bytealg.IndexByteString", "internal/bytealg.IndexString"], unfollowed := true, recurses := true, named := ["unicode/utf8.first", "unicode/utf8.acceptRanges", "internal/bytealg.MaxLen"], apart := false, laid := [("unicode/utf8.acceptRanges", laid_unicode_utf8_acceptRanges), ("unicode/utf8.first", laid_unicode_utf8_first)], narrowed := true }
def DeskGivesUpLastUptoSaid : Prop := deskGivesUpLastUptoRow.holds Tryd.pinned (OpenSpec.upto deskGivesUpLastSpec)

/-- 'interchangelaw12.DeskPendingMatchesSpec', WHERE WHAT IT READS IS OF BULK AT MOST 1048576: true; the input reads as it did. -/
def deskPendingMatchesSpecUptoRow : OpenClaim := { program := "ytjdeikkojjdjdaadoor", sum := "02b00079bffcd22fe74b73469caf9bfd248b7ac5d2488e6d88e1a617b6f1ea90", func := "interchange/interchangelaw12.DeskPendingMatchesSpec", spec := "deskPendingMatchesSpec", inPlace := ["internal/bytealg.IndexByteString", "internal/bytealg.IndexString"], unfollowed := true, recurses := true, named := ["unicode/utf8.first", "unicode/utf8.acceptRanges", "internal/bytealg.MaxLen"], apart := false, laid := [("unicode/utf8.acceptRanges", laid_unicode_utf8_acceptRanges), ("unicode/utf8.first", laid_unicode_utf8_first)], narrowed := true }
def DeskPendingMatchesSpecUptoSaid : Prop := deskPendingMatchesSpecUptoRow.holds Tryd.pinned (OpenSpec.upto deskPendingMatchesSpecSpec)

/-- 'interchangelaw12.DeskQueuesStayInOrder', WHERE WHAT IT READS IS OF BULK AT MOST 1048576: true; the input reads as it did. -/
def deskQueuesStayInOrderUptoRow : OpenClaim := { program := "ytjdeikkojjdjdaadoor", sum := "02b00079bffcd22fe74b73469caf9bfd248b7ac5d2488e6d88e1a617b6f1ea90", func := "interchange/interchangelaw12.DeskQueuesStayInOrder", spec := "deskQueuesStayInOrder", inPlace := ["internal/bytealg.IndexByteString", "internal/bytealg.IndexString"], unfollowed := true, recurses := true, named := ["unicode/utf8.first", "unicode/utf8.acceptRanges", "internal/bytealg.MaxLen"], apart := false, laid := [("unicode/utf8.acceptRanges", laid_unicode_utf8_acceptRanges), ("unicode/utf8.first", laid_unicode_utf8_first)], narrowed := true }
def DeskQueuesStayInOrderUptoSaid : Prop := deskQueuesStayInOrderUptoRow.holds Tryd.pinned (OpenSpec.upto deskQueuesStayInOrderSpec)

end Rows
end Go.Proofs.YtjdeikkojjdjdaaDoor
