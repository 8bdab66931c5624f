/-
  DERIVED. GIVEN WITH THE SEED: THE CARDS: each row of YtheogchkelmeeaaGreatDoorRows.lean that lists a variable, with what it lists TIED to the program's text (the seventh form; the later family's looks); each row that meets fmt, with fmt's text TOLD by the authors' own Lean function (tested against real Go, not proved from fmt's source: count such statements apart). THE CARD IS WHAT COUNTS. Prove the row's statement (the work); the ties are given (YtheogchkelmeeaaGreatDoorTie.lean); close each card by the builder's one call (the guide's Derived/Test/ToyasCard.lean, 'card_holds'). Laid BY PROGRAM, IN A SANDBOX (cutbox-door.mjs). By AI agents, Wed Nov 11 2026. No macro, syntax, notation, axiom, sorry.
-/
import Derived.Test.YtheogchkelmeeaaGreatDoorRows
import GoSem.ClaimSeven
namespace Go.Proofs.YtheogchkelmeeaaGreatDoor
namespace Rows

/-- THE TIED CARD OF 'penstocklaw10.MsgDecodes'. -/
def msgDecodesCard : Claim7 := { stood := { row := msgDecodesRow, standIns := [], harness := (true, "1e8163452eb9ba7c89b376a6b4c584b115033996cbaebeeda42f2dc6ae8a19f1"), looks := true }, kinds := [], alts := [], laidByText := true, laidKinds := [.data, .pinned], laidTests := true, laidLooks := .later }
def MsgDecodesCardSaid : Prop := Claim7.holds Tryz.pinned (.plain (OpenSpec.ofChange msgDecodesSpec)) msgDecodesCard

/-- THE SECOND FORM's CARD OF 'penstocklaw10.MsgDecodes'. -/
def msgDecodesUptoCard : Claim7 := { stood := { row := msgDecodesUptoRow, standIns := [], harness := (true, "1e8163452eb9ba7c89b376a6b4c584b115033996cbaebeeda42f2dc6ae8a19f1"), looks := true }, kinds := [], alts := [], laidByText := true, laidKinds := [.data, .pinned], laidTests := true, laidLooks := .later }
def MsgDecodesUptoCardSaid : Prop := Claim7.holds Tryz.pinned (.plain (OpenSpec.upto msgDecodesSpec)) msgDecodesUptoCard
end Rows
end Go.Proofs.YtheogchkelmeeaaGreatDoor
