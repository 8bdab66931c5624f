/-
  NARROWER THAN 'FOR EVERY INPUT', by the rows' own cells (each row's printed sentence says how): RunesWalk: laid · RunesCount: laid · RunesQuotes: laid · RunesJoin: laid · RunesLimits: laid · RunesFold: laid · RunesNames: laid · RunesBack: laid.
  DERIVED. THE GIVEN ROWS OF THIS SEAT. 8 by the template 'for every input the law returns true; each argument reads behind the call as it read before'; 0 by the template 'total and deterministic' (their statements: YtjielocmjfmadaaDoorTotals.lean).
  GIVEN WITH THE SEED: the statements are not yours to turn. If you find one false, say at which input.
  Laid BY PROGRAM, IN A SANDBOX (cutbox-rows.mjs): the forced cells as the released guide's own fill.sh prints them over the translation 2167ec90aaaaf1eb… (all of the seat's roots in one cut). By AI agents, Wed Nov 11 2026. No macro, syntax, notation, axiom, sorry.
-/
import Derived.Test.YtjielocmjfmadaaDoorChecked
import GoSem.PinnedTables
import GoSem.Claim
import GoSem.ClaimJoined
import GoSem.ClaimMapViews
import Derived.JoinedTies
import Derived.KernelRfl
namespace Go.Proofs.YtjielocmjfmadaaDoor
/- THE CELL 'sum', in the pinned program and in every row, IS THE sha256 OF THE DUMP (.gsa) THAT YtjielocmjfmadaaDoorProg.lean LOADS. Nothing in Lean hashes anything: it is a label: what it is worth is what the hold of that sum in a sandbox is worth. -/
noncomputable def Tryd.pinned : Pinned := { name := "ytjielocmjfmadaadoor", sum := "2167ec90aaaaf1eb71a88da9b1e59be97601b6a8f54738b29f3400e33a879735", checked := Tryd.checked }
namespace Rows
def none {H : Type} : Left H := { results := [], args := [] }

/- WHAT THE LISTED PACKAGE-LEVEL VARIABLES READ AS WHEN THE CALL BEGINS. Each datum BY PROGRAM (the guide's laid-datum.mjs) off the statement by which the dump's own 'gosem.cut.vars' lays the variable. In a bare row this is a premise. The card (YtjielocmjfmadaaDoorCards.lean) ties it to the program's text. -/
def laid_unicode_utf8_acceptRanges {H : Type} : DataW H := .agg [.agg [.lit (.int .u8 128), .lit (.int .u8 191)], .agg [.lit (.int .u8 160), .lit (.int .u8 191)], .agg [.lit (.int .u8 128), .lit (.int .u8 159)], .agg [.lit (.int .u8 144), .lit (.int .u8 191)], .agg [.lit (.int .u8 128), .lit (.int .u8 143)], .agg [.lit (.int .u8 0), .lit (.int .u8 0)], .agg [.lit (.int .u8 0), .lit (.int .u8 0)], .agg [.lit (.int .u8 0), .lit (.int .u8 0)], .agg [.lit (.int .u8 0), .lit (.int .u8 0)], .agg [.lit (.int .u8 0), .lit (.int .u8 0)], .agg [.lit (.int .u8 0), .lit (.int .u8 0)], .agg [.lit (.int .u8 0), .lit (.int .u8 0)], .agg [.lit (.int .u8 0), .lit (.int .u8 0)], .agg [.lit (.int .u8 0), .lit (.int .u8 0)], .agg [.lit (.int .u8 0), .lit (.int .u8 0)], .agg [.lit (.int .u8 0), .lit (.int .u8 0)]]
/-- One of Go's own tables, pinned by name: the form's constant. -/
def laid_unicode_utf8_first : DataW Unit := Go.Pinned.utf8First

/-- 'penstocklaw1.RunesWalk': WHATEVER THE INPUT: true; the input reads as it did. -/
def runesWalkSpec : ChangeSpec := { name := "runesWalk", fn := fun _ => fun
  | [d] => { results := [.lit (.bool true)], args := [d] }
  | _ => none }
def runesWalkRow : OpenClaim := { program := "ytjielocmjfmadaadoor", sum := "2167ec90aaaaf1eb71a88da9b1e59be97601b6a8f54738b29f3400e33a879735", func := "penstock/penstocklaw1.RunesWalk", spec := "runesWalk", named := ["unicode/utf8.first", "unicode/utf8.acceptRanges"], apart := false, laid := [("unicode/utf8.acceptRanges", laid_unicode_utf8_acceptRanges), ("unicode/utf8.first", laid_unicode_utf8_first)] }
def RunesWalkSaid : Prop := runesWalkRow.holds Tryd.pinned (OpenSpec.ofChange runesWalkSpec)

/-- ITS FALSE NEIGHBOUR: 'it returns false'. Refute it at one input. -/
def runesWalkWrong : ChangeSpec := { name := "runesWalk", fn := fun _ => fun
  | [d] => { results := [.lit (.bool false)], args := [d] }
  | _ => none }
def RunesWalkWrongFalsely : Prop := runesWalkRow.holds Tryd.pinned (OpenSpec.ofChange runesWalkWrong)

/-- 'penstocklaw1.RunesCount': WHATEVER THE INPUT: true; the input reads as it did. -/
def runesCountSpec : ChangeSpec := { name := "runesCount", fn := fun _ => fun
  | [d1, d2] => { results := [.lit (.bool true)], args := [d1, d2] }
  | _ => none }
def runesCountRow : OpenClaim := { program := "ytjielocmjfmadaadoor", sum := "2167ec90aaaaf1eb71a88da9b1e59be97601b6a8f54738b29f3400e33a879735", func := "penstock/penstocklaw1.RunesCount", spec := "runesCount", named := ["unicode/utf8.first", "unicode/utf8.acceptRanges"], apart := false, laid := [("unicode/utf8.acceptRanges", laid_unicode_utf8_acceptRanges), ("unicode/utf8.first", laid_unicode_utf8_first)] }
def RunesCountSaid : Prop := runesCountRow.holds Tryd.pinned (OpenSpec.ofChange runesCountSpec)

/-- ITS FALSE NEIGHBOUR: 'it returns false'. Refute it at one input. -/
def runesCountWrong : ChangeSpec := { name := "runesCount", fn := fun _ => fun
  | [d1, d2] => { results := [.lit (.bool false)], args := [d1, d2] }
  | _ => none }
def RunesCountWrongFalsely : Prop := runesCountRow.holds Tryd.pinned (OpenSpec.ofChange runesCountWrong)

/-- 'penstocklaw1.RunesQuotes': WHATEVER THE INPUT: true; the input reads as it did. -/
def runesQuotesSpec : ChangeSpec := { name := "runesQuotes", fn := fun _ => fun
  | [d] => { results := [.lit (.bool true)], args := [d] }
  | _ => none }
def runesQuotesRow : OpenClaim := { program := "ytjielocmjfmadaadoor", sum := "2167ec90aaaaf1eb71a88da9b1e59be97601b6a8f54738b29f3400e33a879735", func := "penstock/penstocklaw1.RunesQuotes", spec := "runesQuotes", named := ["unicode/utf8.first", "unicode/utf8.acceptRanges"], apart := false, laid := [("unicode/utf8.acceptRanges", laid_unicode_utf8_acceptRanges), ("unicode/utf8.first", laid_unicode_utf8_first)] }
def RunesQuotesSaid : Prop := runesQuotesRow.holds Tryd.pinned (OpenSpec.ofChange runesQuotesSpec)

/-- ITS FALSE NEIGHBOUR: 'it returns false'. Refute it at one input. -/
def runesQuotesWrong : ChangeSpec := { name := "runesQuotes", fn := fun _ => fun
  | [d] => { results := [.lit (.bool false)], args := [d] }
  | _ => none }
def RunesQuotesWrongFalsely : Prop := runesQuotesRow.holds Tryd.pinned (OpenSpec.ofChange runesQuotesWrong)

/-- 'penstocklaw1.RunesJoin': WHATEVER THE INPUT: true; the input reads as it did. -/
def runesJoinSpec : ChangeSpec := { name := "runesJoin", fn := fun _ => fun
  | [d1, d2] => { results := [.lit (.bool true)], args := [d1, d2] }
  | _ => none }
def runesJoinRow : OpenClaim := { program := "ytjielocmjfmadaadoor", sum := "2167ec90aaaaf1eb71a88da9b1e59be97601b6a8f54738b29f3400e33a879735", func := "penstock/penstocklaw1.RunesJoin", spec := "runesJoin", named := ["unicode/utf8.first", "unicode/utf8.acceptRanges"], apart := false, laid := [("unicode/utf8.acceptRanges", laid_unicode_utf8_acceptRanges), ("unicode/utf8.first", laid_unicode_utf8_first)] }
def RunesJoinSaid : Prop := runesJoinRow.holds Tryd.pinned (OpenSpec.ofChange runesJoinSpec)

/-- ITS FALSE NEIGHBOUR: 'it returns false'. Refute it at one input. -/
def runesJoinWrong : ChangeSpec := { name := "runesJoin", fn := fun _ => fun
  | [d1, d2] => { results := [.lit (.bool false)], args := [d1, d2] }
  | _ => none }
def RunesJoinWrongFalsely : Prop := runesJoinRow.holds Tryd.pinned (OpenSpec.ofChange runesJoinWrong)

/-- 'penstocklaw1.RunesLimits': WHATEVER THE INPUT: true; the input reads as it did. -/
def runesLimitsSpec : ChangeSpec := { name := "runesLimits", fn := fun _ => fun
  | [d1, d2] => { results := [.lit (.bool true)], args := [d1, d2] }
  | _ => none }
def runesLimitsRow : OpenClaim := { program := "ytjielocmjfmadaadoor", sum := "2167ec90aaaaf1eb71a88da9b1e59be97601b6a8f54738b29f3400e33a879735", func := "penstock/penstocklaw1.RunesLimits", spec := "runesLimits", unfollowed := true, recurses := true, named := ["unicode/utf8.first", "unicode/utf8.acceptRanges"], apart := false, laid := [("unicode/utf8.acceptRanges", laid_unicode_utf8_acceptRanges), ("unicode/utf8.first", laid_unicode_utf8_first)] }
def RunesLimitsSaid : Prop := runesLimitsRow.holds Tryd.pinned (OpenSpec.ofChange runesLimitsSpec)

/-- ITS FALSE NEIGHBOUR: 'it returns false'. Refute it at one input. -/
def runesLimitsWrong : ChangeSpec := { name := "runesLimits", fn := fun _ => fun
  | [d1, d2] => { results := [.lit (.bool false)], args := [d1, d2] }
  | _ => none }
def RunesLimitsWrongFalsely : Prop := runesLimitsRow.holds Tryd.pinned (OpenSpec.ofChange runesLimitsWrong)

/-- 'penstocklaw1.RunesFold': WHATEVER THE INPUT: true; the input reads as it did. -/
def runesFoldSpec : ChangeSpec := { name := "runesFold", fn := fun _ => fun
  | [d] => { results := [.lit (.bool true)], args := [d] }
  | _ => none }
def runesFoldRow : OpenClaim := { program := "ytjielocmjfmadaadoor", sum := "2167ec90aaaaf1eb71a88da9b1e59be97601b6a8f54738b29f3400e33a879735", func := "penstock/penstocklaw1.RunesFold", spec := "runesFold", unfollowed := true, recurses := true, named := ["unicode/utf8.first", "unicode/utf8.acceptRanges"], apart := false, laid := [("unicode/utf8.acceptRanges", laid_unicode_utf8_acceptRanges), ("unicode/utf8.first", laid_unicode_utf8_first)] }
def RunesFoldSaid : Prop := runesFoldRow.holds Tryd.pinned (OpenSpec.ofChange runesFoldSpec)

/-- ITS FALSE NEIGHBOUR: 'it returns false'. Refute it at one input. -/
def runesFoldWrong : ChangeSpec := { name := "runesFold", fn := fun _ => fun
  | [d] => { results := [.lit (.bool false)], args := [d] }
  | _ => none }
def RunesFoldWrongFalsely : Prop := runesFoldRow.holds Tryd.pinned (OpenSpec.ofChange runesFoldWrong)

/-- 'penstocklaw1.RunesNames': WHATEVER THE INPUT: true; the input reads as it did. -/
def runesNamesSpec : ChangeSpec := { name := "runesNames", fn := fun _ => fun
  | [d1, d2] => { results := [.lit (.bool true)], args := [d1, d2] }
  | _ => none }
def runesNamesRow : OpenClaim := { program := "ytjielocmjfmadaadoor", sum := "2167ec90aaaaf1eb71a88da9b1e59be97601b6a8f54738b29f3400e33a879735", func := "penstock/penstocklaw1.RunesNames", spec := "runesNames", unfollowed := true, recurses := true, named := ["unicode/utf8.first", "unicode/utf8.acceptRanges"], apart := false, laid := [("unicode/utf8.acceptRanges", laid_unicode_utf8_acceptRanges), ("unicode/utf8.first", laid_unicode_utf8_first)] }
def RunesNamesSaid : Prop := runesNamesRow.holds Tryd.pinned (OpenSpec.ofChange runesNamesSpec)

/-- ITS FALSE NEIGHBOUR: 'it returns false'. Refute it at one input. -/
def runesNamesWrong : ChangeSpec := { name := "runesNames", fn := fun _ => fun
  | [d1, d2] => { results := [.lit (.bool false)], args := [d1, d2] }
  | _ => none }
def RunesNamesWrongFalsely : Prop := runesNamesRow.holds Tryd.pinned (OpenSpec.ofChange runesNamesWrong)

/-- 'penstocklaw1.RunesBack': WHATEVER THE INPUT: true; the input reads as it did. -/
def runesBackSpec : ChangeSpec := { name := "runesBack", fn := fun _ => fun
  | [d1, d2] => { results := [.lit (.bool true)], args := [d1, d2] }
  | _ => none }
def runesBackRow : OpenClaim := { program := "ytjielocmjfmadaadoor", sum := "2167ec90aaaaf1eb71a88da9b1e59be97601b6a8f54738b29f3400e33a879735", func := "penstock/penstocklaw1.RunesBack", spec := "runesBack", named := ["unicode/utf8.first", "unicode/utf8.acceptRanges"], apart := false, laid := [("unicode/utf8.acceptRanges", laid_unicode_utf8_acceptRanges), ("unicode/utf8.first", laid_unicode_utf8_first)] }
def RunesBackSaid : Prop := runesBackRow.holds Tryd.pinned (OpenSpec.ofChange runesBackSpec)

/-- ITS FALSE NEIGHBOUR: 'it returns false'. Refute it at one input. -/
def runesBackWrong : ChangeSpec := { name := "runesBack", fn := fun _ => fun
  | [d1, d2] => { results := [.lit (.bool false)], args := [d1, d2] }
  | _ => none }
def RunesBackWrongFalsely : Prop := runesBackRow.holds Tryd.pinned (OpenSpec.ofChange runesBackWrong)

/- THE SECOND FORM. 'bulk': how many values and letters a reading holds, each counted each time it is reached (what is shared counts as often as it is met; a slice's spare places count too). A statement '..UptoSaid' is the law's where the arguments, and the package variables that the reading takes, are together of bulk at most 1048576: NARROWER than '..Said'. Prove '..Said' where nothing that the law and all that it calls make is longer than what came in: it says more and counts as full. Else prove '..UptoSaid'. A law counts once. -/
mutual
def uptoBulk {H : Type} : DataW H → Nat
  | .lit (.string bytes) => bytes.length + 1
  | .lit _ => 1
  | .nil => 1
  | .ptr d => uptoBulk d + 1
  | .slice elems spare => uptoBulkAll elems + uptoBulkAll spare + 1
  | .agg parts => uptoBulkAll parts + 1
  | .iface _ d => uptoBulk d + 1
  | .map entries => uptoBulkEntries entries + 1
  | .held _ => 1
def uptoBulkAll {H : Type} : List (DataW H) → Nat
  | [] => 0
  | d :: r => uptoBulk d + uptoBulkAll r
def uptoBulkEntries {H : Type} : List (Lit × DataW H) → Nat
  | [] => 0
  | x :: r => uptoBulkEntry x + uptoBulkEntries r
def uptoBulkEntry {H : Type} : Lit × DataW H → Nat
  | (.string bytes, d) => bytes.length + uptoBulk d + 1
  | (_, d) => uptoBulk d + 1
 end
def uptoSmall : (H : Type) → List (DataW H) → Bool := fun _ ds => decide (uptoBulkAll ds ≤ 1048576)
def OpenSpec.upto (s : _root_.Go.ChangeSpec) : _root_.Go.OpenSpec := { _root_.Go.OpenSpec.ofChange s with cond := some uptoSmall }

/-- 'penstocklaw1.RunesWalk', WHERE WHAT IT READS IS OF BULK AT MOST 1048576: true; the input reads as it did. -/
def runesWalkUptoRow : OpenClaim := { program := "ytjielocmjfmadaadoor", sum := "2167ec90aaaaf1eb71a88da9b1e59be97601b6a8f54738b29f3400e33a879735", func := "penstock/penstocklaw1.RunesWalk", spec := "runesWalk", named := ["unicode/utf8.first", "unicode/utf8.acceptRanges"], apart := false, laid := [("unicode/utf8.acceptRanges", laid_unicode_utf8_acceptRanges), ("unicode/utf8.first", laid_unicode_utf8_first)], narrowed := true }
def RunesWalkUptoSaid : Prop := runesWalkUptoRow.holds Tryd.pinned (OpenSpec.upto runesWalkSpec)

/-- 'penstocklaw1.RunesCount', WHERE WHAT IT READS IS OF BULK AT MOST 1048576: true; the input reads as it did. -/
def runesCountUptoRow : OpenClaim := { program := "ytjielocmjfmadaadoor", sum := "2167ec90aaaaf1eb71a88da9b1e59be97601b6a8f54738b29f3400e33a879735", func := "penstock/penstocklaw1.RunesCount", spec := "runesCount", named := ["unicode/utf8.first", "unicode/utf8.acceptRanges"], apart := false, laid := [("unicode/utf8.acceptRanges", laid_unicode_utf8_acceptRanges), ("unicode/utf8.first", laid_unicode_utf8_first)], narrowed := true }
def RunesCountUptoSaid : Prop := runesCountUptoRow.holds Tryd.pinned (OpenSpec.upto runesCountSpec)

/-- 'penstocklaw1.RunesQuotes', WHERE WHAT IT READS IS OF BULK AT MOST 1048576: true; the input reads as it did. -/
def runesQuotesUptoRow : OpenClaim := { program := "ytjielocmjfmadaadoor", sum := "2167ec90aaaaf1eb71a88da9b1e59be97601b6a8f54738b29f3400e33a879735", func := "penstock/penstocklaw1.RunesQuotes", spec := "runesQuotes", named := ["unicode/utf8.first", "unicode/utf8.acceptRanges"], apart := false, laid := [("unicode/utf8.acceptRanges", laid_unicode_utf8_acceptRanges), ("unicode/utf8.first", laid_unicode_utf8_first)], narrowed := true }
def RunesQuotesUptoSaid : Prop := runesQuotesUptoRow.holds Tryd.pinned (OpenSpec.upto runesQuotesSpec)

/-- 'penstocklaw1.RunesJoin', WHERE WHAT IT READS IS OF BULK AT MOST 1048576: true; the input reads as it did. -/
def runesJoinUptoRow : OpenClaim := { program := "ytjielocmjfmadaadoor", sum := "2167ec90aaaaf1eb71a88da9b1e59be97601b6a8f54738b29f3400e33a879735", func := "penstock/penstocklaw1.RunesJoin", spec := "runesJoin", named := ["unicode/utf8.first", "unicode/utf8.acceptRanges"], apart := false, laid := [("unicode/utf8.acceptRanges", laid_unicode_utf8_acceptRanges), ("unicode/utf8.first", laid_unicode_utf8_first)], narrowed := true }
def RunesJoinUptoSaid : Prop := runesJoinUptoRow.holds Tryd.pinned (OpenSpec.upto runesJoinSpec)

/-- 'penstocklaw1.RunesLimits', WHERE WHAT IT READS IS OF BULK AT MOST 1048576: true; the input reads as it did. -/
def runesLimitsUptoRow : OpenClaim := { program := "ytjielocmjfmadaadoor", sum := "2167ec90aaaaf1eb71a88da9b1e59be97601b6a8f54738b29f3400e33a879735", func := "penstock/penstocklaw1.RunesLimits", spec := "runesLimits", unfollowed := true, recurses := true, named := ["unicode/utf8.first", "unicode/utf8.acceptRanges"], apart := false, laid := [("unicode/utf8.acceptRanges", laid_unicode_utf8_acceptRanges), ("unicode/utf8.first", laid_unicode_utf8_first)], narrowed := true }
def RunesLimitsUptoSaid : Prop := runesLimitsUptoRow.holds Tryd.pinned (OpenSpec.upto runesLimitsSpec)

/-- 'penstocklaw1.RunesFold', WHERE WHAT IT READS IS OF BULK AT MOST 1048576: true; the input reads as it did. -/
def runesFoldUptoRow : OpenClaim := { program := "ytjielocmjfmadaadoor", sum := "2167ec90aaaaf1eb71a88da9b1e59be97601b6a8f54738b29f3400e33a879735", func := "penstock/penstocklaw1.RunesFold", spec := "runesFold", unfollowed := true, recurses := true, named := ["unicode/utf8.first", "unicode/utf8.acceptRanges"], apart := false, laid := [("unicode/utf8.acceptRanges", laid_unicode_utf8_acceptRanges), ("unicode/utf8.first", laid_unicode_utf8_first)], narrowed := true }
def RunesFoldUptoSaid : Prop := runesFoldUptoRow.holds Tryd.pinned (OpenSpec.upto runesFoldSpec)

/-- 'penstocklaw1.RunesNames', WHERE WHAT IT READS IS OF BULK AT MOST 1048576: true; the input reads as it did. -/
def runesNamesUptoRow : OpenClaim := { program := "ytjielocmjfmadaadoor", sum := "2167ec90aaaaf1eb71a88da9b1e59be97601b6a8f54738b29f3400e33a879735", func := "penstock/penstocklaw1.RunesNames", spec := "runesNames", unfollowed := true, recurses := true, named := ["unicode/utf8.first", "unicode/utf8.acceptRanges"], apart := false, laid := [("unicode/utf8.acceptRanges", laid_unicode_utf8_acceptRanges), ("unicode/utf8.first", laid_unicode_utf8_first)], narrowed := true }
def RunesNamesUptoSaid : Prop := runesNamesUptoRow.holds Tryd.pinned (OpenSpec.upto runesNamesSpec)

/-- 'penstocklaw1.RunesBack', WHERE WHAT IT READS IS OF BULK AT MOST 1048576: true; the input reads as it did. -/
def runesBackUptoRow : OpenClaim := { program := "ytjielocmjfmadaadoor", sum := "2167ec90aaaaf1eb71a88da9b1e59be97601b6a8f54738b29f3400e33a879735", func := "penstock/penstocklaw1.RunesBack", spec := "runesBack", named := ["unicode/utf8.first", "unicode/utf8.acceptRanges"], apart := false, laid := [("unicode/utf8.acceptRanges", laid_unicode_utf8_acceptRanges), ("unicode/utf8.first", laid_unicode_utf8_first)], narrowed := true }
def RunesBackUptoSaid : Prop := runesBackUptoRow.holds Tryd.pinned (OpenSpec.upto runesBackSpec)

end Rows
end Go.Proofs.YtjielocmjfmadaaDoor
