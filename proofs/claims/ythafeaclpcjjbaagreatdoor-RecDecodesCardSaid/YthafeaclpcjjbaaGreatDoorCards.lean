/-
  DERIVED. GIVEN WITH THE SEED: THE CARDS: each row of YthafeaclpcjjbaaGreatDoorRows.lean that lists a variable, with what it lists TIED to the program's text (the seventh form; the later family's looks); each row that meets fmt, with fmt's text TOLD by the authors' own Lean function (tested against real Go, not proved from fmt's source: count such statements apart). THE CARD IS WHAT COUNTS. Prove the row's statement (the work); the ties are given (YthafeaclpcjjbaaGreatDoorTie.lean); close each card by the builder's one call (the guide's Derived/Test/ToyasCard.lean, 'card_holds'). Laid BY PROGRAM, IN A SANDBOX (cutbox-door.mjs). By AI agents, Wed Nov 11 2026. No macro, syntax, notation, axiom, sorry.
-/
import Derived.Test.YthafeaclpcjjbaaGreatDoorRows
import GoSem.ClaimSeven
namespace Go.Proofs.YthafeaclpcjjbaaGreatDoor
namespace Rows

/-- THE TIED CARD OF 'penstocklaw12.RecDecodes'. -/
def recDecodesCard : Claim7 := { stood := { row := recDecodesRow, standIns := [], harness := (true, "371a43c4f239f453dfb0675df18b64b3643af94c1165348297dcff5918342963"), looks := false }, kinds := [], alts := [], laidByText := true, laidKinds := [.data, .pinned], laidTests := true, laidLooks := .later }
def RecDecodesCardSaid : Prop := Claim7.holds Tryz.pinned (.plain (OpenSpec.ofChange recDecodesSpec)) recDecodesCard

/-- THE SECOND FORM's CARD OF 'penstocklaw12.RecDecodes'. -/
def recDecodesUptoCard : Claim7 := { stood := { row := recDecodesUptoRow, standIns := [], harness := (true, "371a43c4f239f453dfb0675df18b64b3643af94c1165348297dcff5918342963"), looks := false }, kinds := [], alts := [], laidByText := true, laidKinds := [.data, .pinned], laidTests := true, laidLooks := .later }
def RecDecodesUptoCardSaid : Prop := Claim7.holds Tryz.pinned (.plain (OpenSpec.upto recDecodesSpec)) recDecodesUptoCard
end Rows
end Go.Proofs.YthafeaclpcjjbaaGreatDoor
