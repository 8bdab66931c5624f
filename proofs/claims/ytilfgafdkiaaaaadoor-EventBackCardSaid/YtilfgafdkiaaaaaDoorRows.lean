/-
  NARROWER THAN 'FOR EVERY INPUT', by the rows' own cells (each row's printed sentence says how): EventLimits: laid · EventRuns: laid · EventEvents: laid · EventStreams: laid · EventBatches: laid · EventBack: laid.
  DERIVED. THE GIVEN ROWS OF THIS SEAT. 6 by the template 'for every input the law returns true; each argument reads behind the call as it read before'; 0 by the template 'total and deterministic' (their statements: YtilfgafdkiaaaaaDoorTotals.lean).
  GIVEN WITH THE SEED: the statements are not yours to turn. If you find one false, say at which input.
  Laid BY PROGRAM, IN A SANDBOX (cutbox-rows.mjs): the forced cells as the released guide's own fill.sh prints them over the translation dc1ea59bed7207fd… (all of the seat's roots in one cut). By AI agents, Wed Nov 11 2026. No macro, syntax, notation, axiom, sorry.
-/
import Derived.Test.YtilfgafdkiaaaaaDoorChecked
import GoSem.PinnedTables
import GoSem.Claim
import GoSem.ClaimJoined
import GoSem.ClaimMapViews
import Derived.JoinedTies
import Derived.KernelRfl
namespace Go.Proofs.YtilfgafdkiaaaaaDoor
/- THE CELL 'sum', in the pinned program and in every row, IS THE sha256 OF THE DUMP (.gsa) THAT YtilfgafdkiaaaaaDoorProg.lean LOADS. Nothing in Lean hashes anything: it is a label: what it is worth is what the hold of that sum in a sandbox is worth. -/
noncomputable def Tryd.pinned : Pinned := { name := "ytilfgafdkiaaaaadoor", sum := "dc1ea59bed7207fd23f379ea9073de73cf9131fe5848da433f522a2066bb1af0", checked := Tryd.checked }
namespace Rows
def none {H : Type} : Left H := { results := [], args := [] }

/- WHAT THE LISTED PACKAGE-LEVEL VARIABLES READ AS WHEN THE CALL BEGINS. Each datum BY PROGRAM (the guide's laid-datum.mjs) off the statement by which the dump's own 'gosem.cut.vars' lays the variable. In a bare row this is a premise. The card (YtilfgafdkiaaaaaDoorCards.lean) ties it to the program's text. -/
def laid_unicode_utf8_acceptRanges {H : Type} : DataW H := .agg [.agg [.lit (.int .u8 128), .lit (.int .u8 191)], .agg [.lit (.int .u8 160), .lit (.int .u8 191)], .agg [.lit (.int .u8 128), .lit (.int .u8 159)], .agg [.lit (.int .u8 144), .lit (.int .u8 191)], .agg [.lit (.int .u8 128), .lit (.int .u8 143)], .agg [.lit (.int .u8 0), .lit (.int .u8 0)], .agg [.lit (.int .u8 0), .lit (.int .u8 0)], .agg [.lit (.int .u8 0), .lit (.int .u8 0)], .agg [.lit (.int .u8 0), .lit (.int .u8 0)], .agg [.lit (.int .u8 0), .lit (.int .u8 0)], .agg [.lit (.int .u8 0), .lit (.int .u8 0)], .agg [.lit (.int .u8 0), .lit (.int .u8 0)], .agg [.lit (.int .u8 0), .lit (.int .u8 0)], .agg [.lit (.int .u8 0), .lit (.int .u8 0)], .agg [.lit (.int .u8 0), .lit (.int .u8 0)], .agg [.lit (.int .u8 0), .lit (.int .u8 0)]]
/-- One of Go's own tables, pinned by name: the form's constant. -/
def laid_unicode_utf8_first : DataW Unit := Go.Pinned.utf8First

/-- 'penstocklaw9.EventLimits': WHATEVER THE INPUT: true; the input reads as it did. -/
def eventLimitsSpec : ChangeSpec := { name := "eventLimits", fn := fun _ => fun
  | [d1, d2, d3] => { results := [.lit (.bool true)], args := [d1, d2, d3] }
  | _ => none }
def eventLimitsRow : OpenClaim := { program := "ytilfgafdkiaaaaadoor", sum := "dc1ea59bed7207fd23f379ea9073de73cf9131fe5848da433f522a2066bb1af0", func := "penstock/penstocklaw9.EventLimits", spec := "eventLimits", unfollowed := true, recurses := true, named := ["unicode/utf8.first", "unicode/utf8.acceptRanges"], apart := false, laid := [("unicode/utf8.acceptRanges", laid_unicode_utf8_acceptRanges), ("unicode/utf8.first", laid_unicode_utf8_first)] }
def EventLimitsSaid : Prop := eventLimitsRow.holds Tryd.pinned (OpenSpec.ofChange eventLimitsSpec)

/-- ITS FALSE NEIGHBOUR: 'it returns false'. Refute it at one input. -/
def eventLimitsWrong : ChangeSpec := { name := "eventLimits", fn := fun _ => fun
  | [d1, d2, d3] => { results := [.lit (.bool false)], args := [d1, d2, d3] }
  | _ => none }
def EventLimitsWrongFalsely : Prop := eventLimitsRow.holds Tryd.pinned (OpenSpec.ofChange eventLimitsWrong)

/-- 'penstocklaw9.EventRuns': WHATEVER THE INPUT: true; the input reads as it did. -/
def eventRunsSpec : ChangeSpec := { name := "eventRuns", fn := fun _ => fun
  | [d1, d2, d3] => { results := [.lit (.bool true)], args := [d1, d2, d3] }
  | _ => none }
def eventRunsRow : OpenClaim := { program := "ytilfgafdkiaaaaadoor", sum := "dc1ea59bed7207fd23f379ea9073de73cf9131fe5848da433f522a2066bb1af0", func := "penstock/penstocklaw9.EventRuns", spec := "eventRuns", unfollowed := true, recurses := true, named := ["unicode/utf8.first", "unicode/utf8.acceptRanges"], apart := false, laid := [("unicode/utf8.acceptRanges", laid_unicode_utf8_acceptRanges), ("unicode/utf8.first", laid_unicode_utf8_first)] }
def EventRunsSaid : Prop := eventRunsRow.holds Tryd.pinned (OpenSpec.ofChange eventRunsSpec)

/-- ITS FALSE NEIGHBOUR: 'it returns false'. Refute it at one input. -/
def eventRunsWrong : ChangeSpec := { name := "eventRuns", fn := fun _ => fun
  | [d1, d2, d3] => { results := [.lit (.bool false)], args := [d1, d2, d3] }
  | _ => none }
def EventRunsWrongFalsely : Prop := eventRunsRow.holds Tryd.pinned (OpenSpec.ofChange eventRunsWrong)

/-- 'penstocklaw9.EventEvents': WHATEVER THE INPUT: true; the input reads as it did. -/
def eventEventsSpec : ChangeSpec := { name := "eventEvents", fn := fun _ => fun
  | [d1, d2] => { results := [.lit (.bool true)], args := [d1, d2] }
  | _ => none }
def eventEventsRow : OpenClaim := { program := "ytilfgafdkiaaaaadoor", sum := "dc1ea59bed7207fd23f379ea9073de73cf9131fe5848da433f522a2066bb1af0", func := "penstock/penstocklaw9.EventEvents", spec := "eventEvents", unfollowed := true, recurses := true, named := ["unicode/utf8.first", "unicode/utf8.acceptRanges"], apart := false, laid := [("unicode/utf8.acceptRanges", laid_unicode_utf8_acceptRanges), ("unicode/utf8.first", laid_unicode_utf8_first)] }
def EventEventsSaid : Prop := eventEventsRow.holds Tryd.pinned (OpenSpec.ofChange eventEventsSpec)

/-- ITS FALSE NEIGHBOUR: 'it returns false'. Refute it at one input. -/
def eventEventsWrong : ChangeSpec := { name := "eventEvents", fn := fun _ => fun
  | [d1, d2] => { results := [.lit (.bool false)], args := [d1, d2] }
  | _ => none }
def EventEventsWrongFalsely : Prop := eventEventsRow.holds Tryd.pinned (OpenSpec.ofChange eventEventsWrong)

/-- 'penstocklaw9.EventStreams': WHATEVER THE INPUT: true; the input reads as it did. -/
def eventStreamsSpec : ChangeSpec := { name := "eventStreams", fn := fun _ => fun
  | [d1, d2] => { results := [.lit (.bool true)], args := [d1, d2] }
  | _ => none }
def eventStreamsRow : OpenClaim := { program := "ytilfgafdkiaaaaadoor", sum := "dc1ea59bed7207fd23f379ea9073de73cf9131fe5848da433f522a2066bb1af0", func := "penstock/penstocklaw9.EventStreams", spec := "eventStreams", unfollowed := true, recurses := true, named := ["unicode/utf8.first", "unicode/utf8.acceptRanges"], apart := false, laid := [("unicode/utf8.acceptRanges", laid_unicode_utf8_acceptRanges), ("unicode/utf8.first", laid_unicode_utf8_first)] }
def EventStreamsSaid : Prop := eventStreamsRow.holds Tryd.pinned (OpenSpec.ofChange eventStreamsSpec)

/-- ITS FALSE NEIGHBOUR: 'it returns false'. Refute it at one input. -/
def eventStreamsWrong : ChangeSpec := { name := "eventStreams", fn := fun _ => fun
  | [d1, d2] => { results := [.lit (.bool false)], args := [d1, d2] }
  | _ => none }
def EventStreamsWrongFalsely : Prop := eventStreamsRow.holds Tryd.pinned (OpenSpec.ofChange eventStreamsWrong)

/-- 'penstocklaw9.EventBatches': WHATEVER THE INPUT: true; the input reads as it did. -/
def eventBatchesSpec : ChangeSpec := { name := "eventBatches", fn := fun _ => fun
  | [d1, d2] => { results := [.lit (.bool true)], args := [d1, d2] }
  | _ => none }
def eventBatchesRow : OpenClaim := { program := "ytilfgafdkiaaaaadoor", sum := "dc1ea59bed7207fd23f379ea9073de73cf9131fe5848da433f522a2066bb1af0", func := "penstock/penstocklaw9.EventBatches", spec := "eventBatches", unfollowed := true, recurses := true, named := ["unicode/utf8.first", "unicode/utf8.acceptRanges"], apart := false, laid := [("unicode/utf8.acceptRanges", laid_unicode_utf8_acceptRanges), ("unicode/utf8.first", laid_unicode_utf8_first)] }
def EventBatchesSaid : Prop := eventBatchesRow.holds Tryd.pinned (OpenSpec.ofChange eventBatchesSpec)

/-- ITS FALSE NEIGHBOUR: 'it returns false'. Refute it at one input. -/
def eventBatchesWrong : ChangeSpec := { name := "eventBatches", fn := fun _ => fun
  | [d1, d2] => { results := [.lit (.bool false)], args := [d1, d2] }
  | _ => none }
def EventBatchesWrongFalsely : Prop := eventBatchesRow.holds Tryd.pinned (OpenSpec.ofChange eventBatchesWrong)

/-- 'penstocklaw9.EventBack': WHATEVER THE INPUT: true; the input reads as it did. -/
def eventBackSpec : ChangeSpec := { name := "eventBack", fn := fun _ => fun
  | [d1, d2, d3, d4, d5] => { results := [.lit (.bool true)], args := [d1, d2, d3, d4, d5] }
  | _ => none }
def eventBackRow : OpenClaim := { program := "ytilfgafdkiaaaaadoor", sum := "dc1ea59bed7207fd23f379ea9073de73cf9131fe5848da433f522a2066bb1af0", func := "penstock/penstocklaw9.EventBack", spec := "eventBack", unfollowed := true, recurses := true, named := ["unicode/utf8.first", "unicode/utf8.acceptRanges"], apart := false, laid := [("unicode/utf8.acceptRanges", laid_unicode_utf8_acceptRanges), ("unicode/utf8.first", laid_unicode_utf8_first)] }
def EventBackSaid : Prop := eventBackRow.holds Tryd.pinned (OpenSpec.ofChange eventBackSpec)

/-- ITS FALSE NEIGHBOUR: 'it returns false'. Refute it at one input. -/
def eventBackWrong : ChangeSpec := { name := "eventBack", fn := fun _ => fun
  | [d1, d2, d3, d4, d5] => { results := [.lit (.bool false)], args := [d1, d2, d3, d4, d5] }
  | _ => none }
def EventBackWrongFalsely : Prop := eventBackRow.holds Tryd.pinned (OpenSpec.ofChange eventBackWrong)

/- THE SECOND FORM. 'bulk': how many values and letters a reading holds, each counted each time it is reached (what is shared counts as often as it is met; a slice's spare places count too). A statement '..UptoSaid' is the law's where the arguments, and the package variables that the reading takes, are together of bulk at most 1048576: NARROWER than '..Said'. Prove '..Said' where nothing that the law and all that it calls make is longer than what came in: it says more and counts as full. Else prove '..UptoSaid'. A law counts once. -/
mutual
def uptoBulk {H : Type} : DataW H → Nat
  | .lit (.string bytes) => bytes.length + 1
  | .lit _ => 1
  | .nil => 1
  | .ptr d => uptoBulk d + 1
  | .slice elems spare => uptoBulkAll elems + uptoBulkAll spare + 1
  | .agg parts => uptoBulkAll parts + 1
  | .iface _ d => uptoBulk d + 1
  | .map entries => uptoBulkEntries entries + 1
  | .held _ => 1
def uptoBulkAll {H : Type} : List (DataW H) → Nat
  | [] => 0
  | d :: r => uptoBulk d + uptoBulkAll r
def uptoBulkEntries {H : Type} : List (Lit × DataW H) → Nat
  | [] => 0
  | x :: r => uptoBulkEntry x + uptoBulkEntries r
def uptoBulkEntry {H : Type} : Lit × DataW H → Nat
  | (.string bytes, d) => bytes.length + uptoBulk d + 1
  | (_, d) => uptoBulk d + 1
 end
def uptoSmall : (H : Type) → List (DataW H) → Bool := fun _ ds => decide (uptoBulkAll ds ≤ 1048576)
def OpenSpec.upto (s : _root_.Go.ChangeSpec) : _root_.Go.OpenSpec := { _root_.Go.OpenSpec.ofChange s with cond := some uptoSmall }

/-- 'penstocklaw9.EventLimits', WHERE WHAT IT READS IS OF BULK AT MOST 1048576: true; the input reads as it did. -/
def eventLimitsUptoRow : OpenClaim := { program := "ytilfgafdkiaaaaadoor", sum := "dc1ea59bed7207fd23f379ea9073de73cf9131fe5848da433f522a2066bb1af0", func := "penstock/penstocklaw9.EventLimits", spec := "eventLimits", unfollowed := true, recurses := true, named := ["unicode/utf8.first", "unicode/utf8.acceptRanges"], apart := false, laid := [("unicode/utf8.acceptRanges", laid_unicode_utf8_acceptRanges), ("unicode/utf8.first", laid_unicode_utf8_first)], narrowed := true }
def EventLimitsUptoSaid : Prop := eventLimitsUptoRow.holds Tryd.pinned (OpenSpec.upto eventLimitsSpec)

/-- 'penstocklaw9.EventRuns', WHERE WHAT IT READS IS OF BULK AT MOST 1048576: true; the input reads as it did. -/
def eventRunsUptoRow : OpenClaim := { program := "ytilfgafdkiaaaaadoor", sum := "dc1ea59bed7207fd23f379ea9073de73cf9131fe5848da433f522a2066bb1af0", func := "penstock/penstocklaw9.EventRuns", spec := "eventRuns", unfollowed := true, recurses := true, named := ["unicode/utf8.first", "unicode/utf8.acceptRanges"], apart := false, laid := [("unicode/utf8.acceptRanges", laid_unicode_utf8_acceptRanges), ("unicode/utf8.first", laid_unicode_utf8_first)], narrowed := true }
def EventRunsUptoSaid : Prop := eventRunsUptoRow.holds Tryd.pinned (OpenSpec.upto eventRunsSpec)

/-- 'penstocklaw9.EventEvents', WHERE WHAT IT READS IS OF BULK AT MOST 1048576: true; the input reads as it did. -/
def eventEventsUptoRow : OpenClaim := { program := "ytilfgafdkiaaaaadoor", sum := "dc1ea59bed7207fd23f379ea9073de73cf9131fe5848da433f522a2066bb1af0", func := "penstock/penstocklaw9.EventEvents", spec := "eventEvents", unfollowed := true, recurses := true, named := ["unicode/utf8.first", "unicode/utf8.acceptRanges"], apart := false, laid := [("unicode/utf8.acceptRanges", laid_unicode_utf8_acceptRanges), ("unicode/utf8.first", laid_unicode_utf8_first)], narrowed := true }
def EventEventsUptoSaid : Prop := eventEventsUptoRow.holds Tryd.pinned (OpenSpec.upto eventEventsSpec)

/-- 'penstocklaw9.EventStreams', WHERE WHAT IT READS IS OF BULK AT MOST 1048576: true; the input reads as it did. -/
def eventStreamsUptoRow : OpenClaim := { program := "ytilfgafdkiaaaaadoor", sum := "dc1ea59bed7207fd23f379ea9073de73cf9131fe5848da433f522a2066bb1af0", func := "penstock/penstocklaw9.EventStreams", spec := "eventStreams", unfollowed := true, recurses := true, named := ["unicode/utf8.first", "unicode/utf8.acceptRanges"], apart := false, laid := [("unicode/utf8.acceptRanges", laid_unicode_utf8_acceptRanges), ("unicode/utf8.first", laid_unicode_utf8_first)], narrowed := true }
def EventStreamsUptoSaid : Prop := eventStreamsUptoRow.holds Tryd.pinned (OpenSpec.upto eventStreamsSpec)

/-- 'penstocklaw9.EventBatches', WHERE WHAT IT READS IS OF BULK AT MOST 1048576: true; the input reads as it did. -/
def eventBatchesUptoRow : OpenClaim := { program := "ytilfgafdkiaaaaadoor", sum := "dc1ea59bed7207fd23f379ea9073de73cf9131fe5848da433f522a2066bb1af0", func := "penstock/penstocklaw9.EventBatches", spec := "eventBatches", unfollowed := true, recurses := true, named := ["unicode/utf8.first", "unicode/utf8.acceptRanges"], apart := false, laid := [("unicode/utf8.acceptRanges", laid_unicode_utf8_acceptRanges), ("unicode/utf8.first", laid_unicode_utf8_first)], narrowed := true }
def EventBatchesUptoSaid : Prop := eventBatchesUptoRow.holds Tryd.pinned (OpenSpec.upto eventBatchesSpec)

/-- 'penstocklaw9.EventBack', WHERE WHAT IT READS IS OF BULK AT MOST 1048576: true; the input reads as it did. -/
def eventBackUptoRow : OpenClaim := { program := "ytilfgafdkiaaaaadoor", sum := "dc1ea59bed7207fd23f379ea9073de73cf9131fe5848da433f522a2066bb1af0", func := "penstock/penstocklaw9.EventBack", spec := "eventBack", unfollowed := true, recurses := true, named := ["unicode/utf8.first", "unicode/utf8.acceptRanges"], apart := false, laid := [("unicode/utf8.acceptRanges", laid_unicode_utf8_acceptRanges), ("unicode/utf8.first", laid_unicode_utf8_first)], narrowed := true }
def EventBackUptoSaid : Prop := eventBackUptoRow.holds Tryd.pinned (OpenSpec.upto eventBackSpec)

end Rows
end Go.Proofs.YtilfgafdkiaaaaaDoor
