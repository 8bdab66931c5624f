/-
  NARROWER THAN 'FOR EVERY INPUT', by the rows' own cells (each row's printed sentence says how): MsgAs: laid · MsgCodes: laid · MsgOther: laid · MsgBack: laid · MsgFirst: laid.
  DERIVED. THE GIVEN ROWS OF THIS SEAT. 5 by the template 'for every input the law returns true; each argument reads behind the call as it read before'; 0 by the template 'total and deterministic' (their statements: YtheogchkelmeeaaDoorTotals.lean).
  GIVEN WITH THE SEED: the statements are not yours to turn. If you find one false, say at which input.
  Laid BY PROGRAM, IN A SANDBOX (cutbox-rows.mjs): the forced cells as the released guide's own fill.sh prints them over the translation bd8837f4eb9f002f… (all of the seat's roots in one cut). By AI agents, Wed Nov 11 2026. No macro, syntax, notation, axiom, sorry.
-/
import Derived.Test.YtheogchkelmeeaaDoorChecked
import GoSem.PinnedTables
import GoSem.Claim
import GoSem.ClaimJoined
import GoSem.ClaimMapViews
import Derived.JoinedTies
import Derived.KernelRfl
namespace Go.Proofs.YtheogchkelmeeaaDoor
/- THE CELL 'sum', in the pinned program and in every row, IS THE sha256 OF THE DUMP (.gsa) THAT YtheogchkelmeeaaDoorProg.lean LOADS. Nothing in Lean hashes anything: it is a label: what it is worth is what the hold of that sum in a sandbox is worth. -/
noncomputable def Tryd.pinned : Pinned := { name := "ytheogchkelmeeaadoor", sum := "bd8837f4eb9f002fef8035a4b1760a3d3a7691485c9e4fef874e64e20092c06d", checked := Tryd.checked }
namespace Rows
def none {H : Type} : Left H := { results := [], args := [] }

/- WHAT THE LISTED PACKAGE-LEVEL VARIABLES READ AS WHEN THE CALL BEGINS. Each datum BY PROGRAM (the guide's laid-datum.mjs) off the statement by which the dump's own 'gosem.cut.vars' lays the variable. In a bare row this is a premise. The card (YtheogchkelmeeaaDoorCards.lean) ties it to the program's text. -/
def laid_unicode_utf8_acceptRanges {H : Type} : DataW H := .agg [.agg [.lit (.int .u8 128), .lit (.int .u8 191)], .agg [.lit (.int .u8 160), .lit (.int .u8 191)], .agg [.lit (.int .u8 128), .lit (.int .u8 159)], .agg [.lit (.int .u8 144), .lit (.int .u8 191)], .agg [.lit (.int .u8 128), .lit (.int .u8 143)], .agg [.lit (.int .u8 0), .lit (.int .u8 0)], .agg [.lit (.int .u8 0), .lit (.int .u8 0)], .agg [.lit (.int .u8 0), .lit (.int .u8 0)], .agg [.lit (.int .u8 0), .lit (.int .u8 0)], .agg [.lit (.int .u8 0), .lit (.int .u8 0)], .agg [.lit (.int .u8 0), .lit (.int .u8 0)], .agg [.lit (.int .u8 0), .lit (.int .u8 0)], .agg [.lit (.int .u8 0), .lit (.int .u8 0)], .agg [.lit (.int .u8 0), .lit (.int .u8 0)], .agg [.lit (.int .u8 0), .lit (.int .u8 0)], .agg [.lit (.int .u8 0), .lit (.int .u8 0)]]
/-- One of Go's own tables, pinned by name: the form's constant. -/
def laid_unicode_utf8_first : DataW Unit := Go.Pinned.utf8First

/-- 'penstocklaw10.MsgAs': WHATEVER THE INPUT: true; the input reads as it did. -/
def msgAsSpec : ChangeSpec := { name := "msgAs", fn := fun _ => fun
  | [d] => { results := [.lit (.bool true)], args := [d] }
  | _ => none }
def msgAsRow : OpenClaim := { program := "ytheogchkelmeeaadoor", sum := "bd8837f4eb9f002fef8035a4b1760a3d3a7691485c9e4fef874e64e20092c06d", func := "penstock/penstocklaw10.MsgAs", spec := "msgAs", unfollowed := true, recurses := true, named := ["unicode/utf8.first", "unicode/utf8.acceptRanges"], apart := false, laid := [("unicode/utf8.acceptRanges", laid_unicode_utf8_acceptRanges), ("unicode/utf8.first", laid_unicode_utf8_first)] }
def MsgAsSaid : Prop := msgAsRow.holds Tryd.pinned (OpenSpec.ofChange msgAsSpec)

/-- ITS FALSE NEIGHBOUR: 'it returns false'. Refute it at one input. -/
def msgAsWrong : ChangeSpec := { name := "msgAs", fn := fun _ => fun
  | [d] => { results := [.lit (.bool false)], args := [d] }
  | _ => none }
def MsgAsWrongFalsely : Prop := msgAsRow.holds Tryd.pinned (OpenSpec.ofChange msgAsWrong)

/-- 'penstocklaw10.MsgCodes': WHATEVER THE INPUT: true; the input reads as it did. -/
def msgCodesSpec : ChangeSpec := { name := "msgCodes", fn := fun _ => fun
  | [d] => { results := [.lit (.bool true)], args := [d] }
  | _ => none }
def msgCodesRow : OpenClaim := { program := "ytheogchkelmeeaadoor", sum := "bd8837f4eb9f002fef8035a4b1760a3d3a7691485c9e4fef874e64e20092c06d", func := "penstock/penstocklaw10.MsgCodes", spec := "msgCodes", unfollowed := true, recurses := true, named := ["unicode/utf8.first", "unicode/utf8.acceptRanges"], apart := false, laid := [("unicode/utf8.acceptRanges", laid_unicode_utf8_acceptRanges), ("unicode/utf8.first", laid_unicode_utf8_first)] }
def MsgCodesSaid : Prop := msgCodesRow.holds Tryd.pinned (OpenSpec.ofChange msgCodesSpec)

/-- ITS FALSE NEIGHBOUR: 'it returns false'. Refute it at one input. -/
def msgCodesWrong : ChangeSpec := { name := "msgCodes", fn := fun _ => fun
  | [d] => { results := [.lit (.bool false)], args := [d] }
  | _ => none }
def MsgCodesWrongFalsely : Prop := msgCodesRow.holds Tryd.pinned (OpenSpec.ofChange msgCodesWrong)

/-- 'penstocklaw10.MsgOther': WHATEVER THE INPUT: true; the input reads as it did. -/
def msgOtherSpec : ChangeSpec := { name := "msgOther", fn := fun _ => fun
  | [d1, d2, d3] => { results := [.lit (.bool true)], args := [d1, d2, d3] }
  | _ => none }
def msgOtherRow : OpenClaim := { program := "ytheogchkelmeeaadoor", sum := "bd8837f4eb9f002fef8035a4b1760a3d3a7691485c9e4fef874e64e20092c06d", func := "penstock/penstocklaw10.MsgOther", spec := "msgOther", unfollowed := true, recurses := true, named := ["unicode/utf8.first", "unicode/utf8.acceptRanges"], apart := false, laid := [("unicode/utf8.acceptRanges", laid_unicode_utf8_acceptRanges), ("unicode/utf8.first", laid_unicode_utf8_first)] }
def MsgOtherSaid : Prop := msgOtherRow.holds Tryd.pinned (OpenSpec.ofChange msgOtherSpec)

/-- ITS FALSE NEIGHBOUR: 'it returns false'. Refute it at one input. -/
def msgOtherWrong : ChangeSpec := { name := "msgOther", fn := fun _ => fun
  | [d1, d2, d3] => { results := [.lit (.bool false)], args := [d1, d2, d3] }
  | _ => none }
def MsgOtherWrongFalsely : Prop := msgOtherRow.holds Tryd.pinned (OpenSpec.ofChange msgOtherWrong)

/-- 'penstocklaw10.MsgBack': WHATEVER THE INPUT: true; the input reads as it did. -/
def msgBackSpec : ChangeSpec := { name := "msgBack", fn := fun _ => fun
  | [d1, d2] => { results := [.lit (.bool true)], args := [d1, d2] }
  | _ => none }
def msgBackRow : OpenClaim := { program := "ytheogchkelmeeaadoor", sum := "bd8837f4eb9f002fef8035a4b1760a3d3a7691485c9e4fef874e64e20092c06d", func := "penstock/penstocklaw10.MsgBack", spec := "msgBack", unfollowed := true, recurses := true, named := ["unicode/utf8.first", "unicode/utf8.acceptRanges"], apart := false, laid := [("unicode/utf8.acceptRanges", laid_unicode_utf8_acceptRanges), ("unicode/utf8.first", laid_unicode_utf8_first)] }
def MsgBackSaid : Prop := msgBackRow.holds Tryd.pinned (OpenSpec.ofChange msgBackSpec)

/-- ITS FALSE NEIGHBOUR: 'it returns false'. Refute it at one input. -/
def msgBackWrong : ChangeSpec := { name := "msgBack", fn := fun _ => fun
  | [d1, d2] => { results := [.lit (.bool false)], args := [d1, d2] }
  | _ => none }
def MsgBackWrongFalsely : Prop := msgBackRow.holds Tryd.pinned (OpenSpec.ofChange msgBackWrong)

/-- 'penstocklaw10.MsgFirst': WHATEVER THE INPUT: true; the input reads as it did. -/
def msgFirstSpec : ChangeSpec := { name := "msgFirst", fn := fun _ => fun
  | [d1, d2] => { results := [.lit (.bool true)], args := [d1, d2] }
  | _ => none }
def msgFirstRow : OpenClaim := { program := "ytheogchkelmeeaadoor", sum := "bd8837f4eb9f002fef8035a4b1760a3d3a7691485c9e4fef874e64e20092c06d", func := "penstock/penstocklaw10.MsgFirst", spec := "msgFirst", unfollowed := true, recurses := true, named := ["unicode/utf8.first", "unicode/utf8.acceptRanges"], apart := false, laid := [("unicode/utf8.acceptRanges", laid_unicode_utf8_acceptRanges), ("unicode/utf8.first", laid_unicode_utf8_first)] }
def MsgFirstSaid : Prop := msgFirstRow.holds Tryd.pinned (OpenSpec.ofChange msgFirstSpec)

/-- ITS FALSE NEIGHBOUR: 'it returns false'. Refute it at one input. -/
def msgFirstWrong : ChangeSpec := { name := "msgFirst", fn := fun _ => fun
  | [d1, d2] => { results := [.lit (.bool false)], args := [d1, d2] }
  | _ => none }
def MsgFirstWrongFalsely : Prop := msgFirstRow.holds Tryd.pinned (OpenSpec.ofChange msgFirstWrong)

/- THE SECOND FORM. 'bulk': how many values and letters a reading holds, each counted each time it is reached (what is shared counts as often as it is met; a slice's spare places count too). A statement '..UptoSaid' is the law's where the arguments, and the package variables that the reading takes, are together of bulk at most 1048576: NARROWER than '..Said'. Prove '..Said' where nothing that the law and all that it calls make is longer than what came in: it says more and counts as full. Else prove '..UptoSaid'. A law counts once. -/
mutual
def uptoBulk {H : Type} : DataW H → Nat
  | .lit (.string bytes) => bytes.length + 1
  | .lit _ => 1
  | .nil => 1
  | .ptr d => uptoBulk d + 1
  | .slice elems spare => uptoBulkAll elems + uptoBulkAll spare + 1
  | .agg parts => uptoBulkAll parts + 1
  | .iface _ d => uptoBulk d + 1
  | .map entries => uptoBulkEntries entries + 1
  | .held _ => 1
def uptoBulkAll {H : Type} : List (DataW H) → Nat
  | [] => 0
  | d :: r => uptoBulk d + uptoBulkAll r
def uptoBulkEntries {H : Type} : List (Lit × DataW H) → Nat
  | [] => 0
  | x :: r => uptoBulkEntry x + uptoBulkEntries r
def uptoBulkEntry {H : Type} : Lit × DataW H → Nat
  | (.string bytes, d) => bytes.length + uptoBulk d + 1
  | (_, d) => uptoBulk d + 1
 end
def uptoSmall : (H : Type) → List (DataW H) → Bool := fun _ ds => decide (uptoBulkAll ds ≤ 1048576)
def OpenSpec.upto (s : _root_.Go.ChangeSpec) : _root_.Go.OpenSpec := { _root_.Go.OpenSpec.ofChange s with cond := some uptoSmall }

/-- 'penstocklaw10.MsgAs', WHERE WHAT IT READS IS OF BULK AT MOST 1048576: true; the input reads as it did. -/
def msgAsUptoRow : OpenClaim := { program := "ytheogchkelmeeaadoor", sum := "bd8837f4eb9f002fef8035a4b1760a3d3a7691485c9e4fef874e64e20092c06d", func := "penstock/penstocklaw10.MsgAs", spec := "msgAs", unfollowed := true, recurses := true, named := ["unicode/utf8.first", "unicode/utf8.acceptRanges"], apart := false, laid := [("unicode/utf8.acceptRanges", laid_unicode_utf8_acceptRanges), ("unicode/utf8.first", laid_unicode_utf8_first)], narrowed := true }
def MsgAsUptoSaid : Prop := msgAsUptoRow.holds Tryd.pinned (OpenSpec.upto msgAsSpec)

/-- 'penstocklaw10.MsgCodes', WHERE WHAT IT READS IS OF BULK AT MOST 1048576: true; the input reads as it did. -/
def msgCodesUptoRow : OpenClaim := { program := "ytheogchkelmeeaadoor", sum := "bd8837f4eb9f002fef8035a4b1760a3d3a7691485c9e4fef874e64e20092c06d", func := "penstock/penstocklaw10.MsgCodes", spec := "msgCodes", unfollowed := true, recurses := true, named := ["unicode/utf8.first", "unicode/utf8.acceptRanges"], apart := false, laid := [("unicode/utf8.acceptRanges", laid_unicode_utf8_acceptRanges), ("unicode/utf8.first", laid_unicode_utf8_first)], narrowed := true }
def MsgCodesUptoSaid : Prop := msgCodesUptoRow.holds Tryd.pinned (OpenSpec.upto msgCodesSpec)

/-- 'penstocklaw10.MsgOther', WHERE WHAT IT READS IS OF BULK AT MOST 1048576: true; the input reads as it did. -/
def msgOtherUptoRow : OpenClaim := { program := "ytheogchkelmeeaadoor", sum := "bd8837f4eb9f002fef8035a4b1760a3d3a7691485c9e4fef874e64e20092c06d", func := "penstock/penstocklaw10.MsgOther", spec := "msgOther", unfollowed := true, recurses := true, named := ["unicode/utf8.first", "unicode/utf8.acceptRanges"], apart := false, laid := [("unicode/utf8.acceptRanges", laid_unicode_utf8_acceptRanges), ("unicode/utf8.first", laid_unicode_utf8_first)], narrowed := true }
def MsgOtherUptoSaid : Prop := msgOtherUptoRow.holds Tryd.pinned (OpenSpec.upto msgOtherSpec)

/-- 'penstocklaw10.MsgBack', WHERE WHAT IT READS IS OF BULK AT MOST 1048576: true; the input reads as it did. -/
def msgBackUptoRow : OpenClaim := { program := "ytheogchkelmeeaadoor", sum := "bd8837f4eb9f002fef8035a4b1760a3d3a7691485c9e4fef874e64e20092c06d", func := "penstock/penstocklaw10.MsgBack", spec := "msgBack", unfollowed := true, recurses := true, named := ["unicode/utf8.first", "unicode/utf8.acceptRanges"], apart := false, laid := [("unicode/utf8.acceptRanges", laid_unicode_utf8_acceptRanges), ("unicode/utf8.first", laid_unicode_utf8_first)], narrowed := true }
def MsgBackUptoSaid : Prop := msgBackUptoRow.holds Tryd.pinned (OpenSpec.upto msgBackSpec)

/-- 'penstocklaw10.MsgFirst', WHERE WHAT IT READS IS OF BULK AT MOST 1048576: true; the input reads as it did. -/
def msgFirstUptoRow : OpenClaim := { program := "ytheogchkelmeeaadoor", sum := "bd8837f4eb9f002fef8035a4b1760a3d3a7691485c9e4fef874e64e20092c06d", func := "penstock/penstocklaw10.MsgFirst", spec := "msgFirst", unfollowed := true, recurses := true, named := ["unicode/utf8.first", "unicode/utf8.acceptRanges"], apart := false, laid := [("unicode/utf8.acceptRanges", laid_unicode_utf8_acceptRanges), ("unicode/utf8.first", laid_unicode_utf8_first)], narrowed := true }
def MsgFirstUptoSaid : Prop := msgFirstUptoRow.holds Tryd.pinned (OpenSpec.upto msgFirstSpec)

end Rows
end Go.Proofs.YtheogchkelmeeaaDoor
