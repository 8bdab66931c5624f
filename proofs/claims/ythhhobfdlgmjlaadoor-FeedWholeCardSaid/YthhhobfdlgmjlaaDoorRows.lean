/-
  NARROWER THAN 'FOR EVERY INPUT', by the rows' own cells (each row's printed sentence says how): FeedWhole: laid · FeedOnly: laid · FeedRefused: laid · FeedTwo: laid.
  DERIVED. THE GIVEN ROWS OF THIS SEAT. 4 by the template 'for every input the law returns true; each argument reads behind the call as it read before'; 0 by the template 'total and deterministic' (their statements: YthhhobfdlgmjlaaDoorTotals.lean).
  GIVEN WITH THE SEED: the statements are not yours to turn. If you find one false, say at which input.
  Laid BY PROGRAM, IN A SANDBOX (cutbox-rows.mjs): the forced cells as the released guide's own fill.sh prints them over the translation 7764da3ef8e65812… (all of the seat's roots in one cut). By AI agents, Wed Nov 11 2026. No macro, syntax, notation, axiom, sorry.
-/
import Derived.Test.YthhhobfdlgmjlaaDoorChecked
import GoSem.PinnedTables
import GoSem.Claim
import GoSem.ClaimJoined
import GoSem.ClaimMapViews
import Derived.JoinedTies
import Derived.KernelRfl
namespace Go.Proofs.YthhhobfdlgmjlaaDoor
/- THE CELL 'sum', in the pinned program and in every row, IS THE sha256 OF THE DUMP (.gsa) THAT YthhhobfdlgmjlaaDoorProg.lean LOADS. Nothing in Lean hashes anything: it is a label: what it is worth is what the hold of that sum in a sandbox is worth. -/
noncomputable def Tryd.pinned : Pinned := { name := "ythhhobfdlgmjlaadoor", sum := "7764da3ef8e6581210b77053a9aa74d3f5c9ad365447b72f691eedd7e3a55deb", checked := Tryd.checked }
namespace Rows
def none {H : Type} : Left H := { results := [], args := [] }

/- WHAT THE LISTED PACKAGE-LEVEL VARIABLES READ AS WHEN THE CALL BEGINS. Each datum BY PROGRAM (the guide's laid-datum.mjs) off the statement by which the dump's own 'gosem.cut.vars' lays the variable. In a bare row this is a premise. The card (YthhhobfdlgmjlaaDoorCards.lean) ties it to the program's text. -/
def laid_unicode_utf8_acceptRanges {H : Type} : DataW H := .agg [.agg [.lit (.int .u8 128), .lit (.int .u8 191)], .agg [.lit (.int .u8 160), .lit (.int .u8 191)], .agg [.lit (.int .u8 128), .lit (.int .u8 159)], .agg [.lit (.int .u8 144), .lit (.int .u8 191)], .agg [.lit (.int .u8 128), .lit (.int .u8 143)], .agg [.lit (.int .u8 0), .lit (.int .u8 0)], .agg [.lit (.int .u8 0), .lit (.int .u8 0)], .agg [.lit (.int .u8 0), .lit (.int .u8 0)], .agg [.lit (.int .u8 0), .lit (.int .u8 0)], .agg [.lit (.int .u8 0), .lit (.int .u8 0)], .agg [.lit (.int .u8 0), .lit (.int .u8 0)], .agg [.lit (.int .u8 0), .lit (.int .u8 0)], .agg [.lit (.int .u8 0), .lit (.int .u8 0)], .agg [.lit (.int .u8 0), .lit (.int .u8 0)], .agg [.lit (.int .u8 0), .lit (.int .u8 0)], .agg [.lit (.int .u8 0), .lit (.int .u8 0)]]
/-- One of Go's own tables, pinned by name: the form's constant. -/
def laid_unicode_utf8_first : DataW Unit := Go.Pinned.utf8First

/-- 'penstocklaw20.FeedWhole': WHATEVER THE INPUT: true; the input reads as it did. -/
def feedWholeSpec : ChangeSpec := { name := "feedWhole", fn := fun _ => fun
  | [d1, d2, d3, d4, d5, d6] => { results := [.lit (.bool true)], args := [d1, d2, d3, d4, d5, d6] }
  | _ => none }
def feedWholeRow : OpenClaim := { program := "ythhhobfdlgmjlaadoor", sum := "7764da3ef8e6581210b77053a9aa74d3f5c9ad365447b72f691eedd7e3a55deb", func := "penstock/penstocklaw20.FeedWhole", spec := "feedWhole", unfollowed := true, recurses := true, named := ["unicode/utf8.first", "unicode/utf8.acceptRanges"], apart := false, laid := [("unicode/utf8.acceptRanges", laid_unicode_utf8_acceptRanges), ("unicode/utf8.first", laid_unicode_utf8_first)] }
def FeedWholeSaid : Prop := feedWholeRow.holds Tryd.pinned (OpenSpec.ofChange feedWholeSpec)

/-- ITS FALSE NEIGHBOUR: 'it returns false'. Refute it at one input. -/
def feedWholeWrong : ChangeSpec := { name := "feedWhole", fn := fun _ => fun
  | [d1, d2, d3, d4, d5, d6] => { results := [.lit (.bool false)], args := [d1, d2, d3, d4, d5, d6] }
  | _ => none }
def FeedWholeWrongFalsely : Prop := feedWholeRow.holds Tryd.pinned (OpenSpec.ofChange feedWholeWrong)

/-- 'penstocklaw20.FeedOnly': WHATEVER THE INPUT: true; the input reads as it did. -/
def feedOnlySpec : ChangeSpec := { name := "feedOnly", fn := fun _ => fun
  | [d1, d2] => { results := [.lit (.bool true)], args := [d1, d2] }
  | _ => none }
def feedOnlyRow : OpenClaim := { program := "ythhhobfdlgmjlaadoor", sum := "7764da3ef8e6581210b77053a9aa74d3f5c9ad365447b72f691eedd7e3a55deb", func := "penstock/penstocklaw20.FeedOnly", spec := "feedOnly", unfollowed := true, recurses := true, named := ["unicode/utf8.first", "unicode/utf8.acceptRanges"], apart := false, laid := [("unicode/utf8.acceptRanges", laid_unicode_utf8_acceptRanges), ("unicode/utf8.first", laid_unicode_utf8_first)] }
def FeedOnlySaid : Prop := feedOnlyRow.holds Tryd.pinned (OpenSpec.ofChange feedOnlySpec)

/-- ITS FALSE NEIGHBOUR: 'it returns false'. Refute it at one input. -/
def feedOnlyWrong : ChangeSpec := { name := "feedOnly", fn := fun _ => fun
  | [d1, d2] => { results := [.lit (.bool false)], args := [d1, d2] }
  | _ => none }
def FeedOnlyWrongFalsely : Prop := feedOnlyRow.holds Tryd.pinned (OpenSpec.ofChange feedOnlyWrong)

/-- 'penstocklaw20.FeedRefused': WHATEVER THE INPUT: true; the input reads as it did. -/
def feedRefusedSpec : ChangeSpec := { name := "feedRefused", fn := fun _ => fun
  | [d1, d2] => { results := [.lit (.bool true)], args := [d1, d2] }
  | _ => none }
def feedRefusedRow : OpenClaim := { program := "ythhhobfdlgmjlaadoor", sum := "7764da3ef8e6581210b77053a9aa74d3f5c9ad365447b72f691eedd7e3a55deb", func := "penstock/penstocklaw20.FeedRefused", spec := "feedRefused", unfollowed := true, recurses := true, named := ["unicode/utf8.first", "unicode/utf8.acceptRanges"], apart := false, laid := [("unicode/utf8.acceptRanges", laid_unicode_utf8_acceptRanges), ("unicode/utf8.first", laid_unicode_utf8_first)] }
def FeedRefusedSaid : Prop := feedRefusedRow.holds Tryd.pinned (OpenSpec.ofChange feedRefusedSpec)

/-- ITS FALSE NEIGHBOUR: 'it returns false'. Refute it at one input. -/
def feedRefusedWrong : ChangeSpec := { name := "feedRefused", fn := fun _ => fun
  | [d1, d2] => { results := [.lit (.bool false)], args := [d1, d2] }
  | _ => none }
def FeedRefusedWrongFalsely : Prop := feedRefusedRow.holds Tryd.pinned (OpenSpec.ofChange feedRefusedWrong)

/-- 'penstocklaw20.FeedTwo': WHATEVER THE INPUT: true; the input reads as it did. -/
def feedTwoSpec : ChangeSpec := { name := "feedTwo", fn := fun _ => fun
  | [d1, d2, d3, d4, d5, d6, d7] => { results := [.lit (.bool true)], args := [d1, d2, d3, d4, d5, d6, d7] }
  | _ => none }
def feedTwoRow : OpenClaim := { program := "ythhhobfdlgmjlaadoor", sum := "7764da3ef8e6581210b77053a9aa74d3f5c9ad365447b72f691eedd7e3a55deb", func := "penstock/penstocklaw20.FeedTwo", spec := "feedTwo", unfollowed := true, recurses := true, named := ["unicode/utf8.first", "unicode/utf8.acceptRanges"], apart := false, laid := [("unicode/utf8.acceptRanges", laid_unicode_utf8_acceptRanges), ("unicode/utf8.first", laid_unicode_utf8_first)] }
def FeedTwoSaid : Prop := feedTwoRow.holds Tryd.pinned (OpenSpec.ofChange feedTwoSpec)

/-- ITS FALSE NEIGHBOUR: 'it returns false'. Refute it at one input. -/
def feedTwoWrong : ChangeSpec := { name := "feedTwo", fn := fun _ => fun
  | [d1, d2, d3, d4, d5, d6, d7] => { results := [.lit (.bool false)], args := [d1, d2, d3, d4, d5, d6, d7] }
  | _ => none }
def FeedTwoWrongFalsely : Prop := feedTwoRow.holds Tryd.pinned (OpenSpec.ofChange feedTwoWrong)

/- THE SECOND FORM. 'bulk': how many values and letters a reading holds, each counted each time it is reached (what is shared counts as often as it is met; a slice's spare places count too). A statement '..UptoSaid' is the law's where the arguments, and the package variables that the reading takes, are together of bulk at most 1048576: NARROWER than '..Said'. Prove '..Said' where nothing that the law and all that it calls make is longer than what came in: it says more and counts as full. Else prove '..UptoSaid'. A law counts once. -/
mutual
def uptoBulk {H : Type} : DataW H → Nat
  | .lit (.string bytes) => bytes.length + 1
  | .lit _ => 1
  | .nil => 1
  | .ptr d => uptoBulk d + 1
  | .slice elems spare => uptoBulkAll elems + uptoBulkAll spare + 1
  | .agg parts => uptoBulkAll parts + 1
  | .iface _ d => uptoBulk d + 1
  | .map entries => uptoBulkEntries entries + 1
  | .held _ => 1
def uptoBulkAll {H : Type} : List (DataW H) → Nat
  | [] => 0
  | d :: r => uptoBulk d + uptoBulkAll r
def uptoBulkEntries {H : Type} : List (Lit × DataW H) → Nat
  | [] => 0
  | x :: r => uptoBulkEntry x + uptoBulkEntries r
def uptoBulkEntry {H : Type} : Lit × DataW H → Nat
  | (.string bytes, d) => bytes.length + uptoBulk d + 1
  | (_, d) => uptoBulk d + 1
 end
def uptoSmall : (H : Type) → List (DataW H) → Bool := fun _ ds => decide (uptoBulkAll ds ≤ 1048576)
def OpenSpec.upto (s : _root_.Go.ChangeSpec) : _root_.Go.OpenSpec := { _root_.Go.OpenSpec.ofChange s with cond := some uptoSmall }

/-- 'penstocklaw20.FeedWhole', WHERE WHAT IT READS IS OF BULK AT MOST 1048576: true; the input reads as it did. -/
def feedWholeUptoRow : OpenClaim := { program := "ythhhobfdlgmjlaadoor", sum := "7764da3ef8e6581210b77053a9aa74d3f5c9ad365447b72f691eedd7e3a55deb", func := "penstock/penstocklaw20.FeedWhole", spec := "feedWhole", unfollowed := true, recurses := true, named := ["unicode/utf8.first", "unicode/utf8.acceptRanges"], apart := false, laid := [("unicode/utf8.acceptRanges", laid_unicode_utf8_acceptRanges), ("unicode/utf8.first", laid_unicode_utf8_first)], narrowed := true }
def FeedWholeUptoSaid : Prop := feedWholeUptoRow.holds Tryd.pinned (OpenSpec.upto feedWholeSpec)

/-- 'penstocklaw20.FeedOnly', WHERE WHAT IT READS IS OF BULK AT MOST 1048576: true; the input reads as it did. -/
def feedOnlyUptoRow : OpenClaim := { program := "ythhhobfdlgmjlaadoor", sum := "7764da3ef8e6581210b77053a9aa74d3f5c9ad365447b72f691eedd7e3a55deb", func := "penstock/penstocklaw20.FeedOnly", spec := "feedOnly", unfollowed := true, recurses := true, named := ["unicode/utf8.first", "unicode/utf8.acceptRanges"], apart := false, laid := [("unicode/utf8.acceptRanges", laid_unicode_utf8_acceptRanges), ("unicode/utf8.first", laid_unicode_utf8_first)], narrowed := true }
def FeedOnlyUptoSaid : Prop := feedOnlyUptoRow.holds Tryd.pinned (OpenSpec.upto feedOnlySpec)

/-- 'penstocklaw20.FeedRefused', WHERE WHAT IT READS IS OF BULK AT MOST 1048576: true; the input reads as it did. -/
def feedRefusedUptoRow : OpenClaim := { program := "ythhhobfdlgmjlaadoor", sum := "7764da3ef8e6581210b77053a9aa74d3f5c9ad365447b72f691eedd7e3a55deb", func := "penstock/penstocklaw20.FeedRefused", spec := "feedRefused", unfollowed := true, recurses := true, named := ["unicode/utf8.first", "unicode/utf8.acceptRanges"], apart := false, laid := [("unicode/utf8.acceptRanges", laid_unicode_utf8_acceptRanges), ("unicode/utf8.first", laid_unicode_utf8_first)], narrowed := true }
def FeedRefusedUptoSaid : Prop := feedRefusedUptoRow.holds Tryd.pinned (OpenSpec.upto feedRefusedSpec)

/-- 'penstocklaw20.FeedTwo', WHERE WHAT IT READS IS OF BULK AT MOST 1048576: true; the input reads as it did. -/
def feedTwoUptoRow : OpenClaim := { program := "ythhhobfdlgmjlaadoor", sum := "7764da3ef8e6581210b77053a9aa74d3f5c9ad365447b72f691eedd7e3a55deb", func := "penstock/penstocklaw20.FeedTwo", spec := "feedTwo", unfollowed := true, recurses := true, named := ["unicode/utf8.first", "unicode/utf8.acceptRanges"], apart := false, laid := [("unicode/utf8.acceptRanges", laid_unicode_utf8_acceptRanges), ("unicode/utf8.first", laid_unicode_utf8_first)], narrowed := true }
def FeedTwoUptoSaid : Prop := feedTwoUptoRow.holds Tryd.pinned (OpenSpec.upto feedTwoSpec)

end Rows
end Go.Proofs.YthhhobfdlgmjlaaDoor
