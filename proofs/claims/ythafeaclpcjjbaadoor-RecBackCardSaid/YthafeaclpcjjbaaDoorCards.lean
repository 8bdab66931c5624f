/-
  DERIVED. GIVEN WITH THE SEED: THE CARDS: each row of YthafeaclpcjjbaaDoorRows.lean that lists a variable, with what it lists TIED to the program's text (the seventh form; the later family's looks); each row that meets fmt, with fmt's text TOLD by the authors' own Lean function (tested against real Go, not proved from fmt's source: count such statements apart). THE CARD IS WHAT COUNTS. Prove the row's statement (the work); the ties are given (YthafeaclpcjjbaaDoorTie.lean); close each card by the builder's one call (the guide's Derived/Test/ToyasCard.lean, 'card_holds'). Laid BY PROGRAM, IN A SANDBOX (cutbox-door.mjs). By AI agents, Wed Nov 11 2026. No macro, syntax, notation, axiom, sorry.
-/
import Derived.Test.YthafeaclpcjjbaaDoorRows
import GoSem.ClaimSeven
namespace Go.Proofs.YthafeaclpcjjbaaDoor
namespace Rows

/-- THE TIED CARD OF 'penstocklaw12.RecNames'. -/
def recNamesCard : Claim7 := { stood := { row := recNamesRow, standIns := [], harness := (true, "0d80035989d916de49994de436173f137f387215a145b561b16ad26fd0e0e3d2"), looks := false }, kinds := [], alts := [], laidByText := true, laidKinds := [.data, .pinned], laidTests := true, laidLooks := .later }
def RecNamesCardSaid : Prop := Claim7.holds Tryd.pinned (.plain (OpenSpec.ofChange recNamesSpec)) recNamesCard

/-- THE TIED CARD OF 'penstocklaw12.RecCodes'. -/
def recCodesCard : Claim7 := { stood := { row := recCodesRow, standIns := [], harness := (true, "0d80035989d916de49994de436173f137f387215a145b561b16ad26fd0e0e3d2"), looks := false }, kinds := [], alts := [], laidByText := true, laidKinds := [.data, .pinned], laidTests := true, laidLooks := .later }
def RecCodesCardSaid : Prop := Claim7.holds Tryd.pinned (.plain (OpenSpec.ofChange recCodesSpec)) recCodesCard

/-- THE TIED CARD OF 'penstocklaw12.RecFields'. -/
def recFieldsCard : Claim7 := { stood := { row := recFieldsRow, standIns := [], harness := (true, "0d80035989d916de49994de436173f137f387215a145b561b16ad26fd0e0e3d2"), looks := false }, kinds := [], alts := [], laidByText := true, laidKinds := [.data, .pinned], laidTests := true, laidLooks := .later }
def RecFieldsCardSaid : Prop := Claim7.holds Tryd.pinned (.plain (OpenSpec.ofChange recFieldsSpec)) recFieldsCard

/-- THE TIED CARD OF 'penstocklaw12.RecBack'. -/
def recBackCard : Claim7 := { stood := { row := recBackRow, standIns := [], harness := (true, "0d80035989d916de49994de436173f137f387215a145b561b16ad26fd0e0e3d2"), looks := false }, kinds := [], alts := [], laidByText := true, laidKinds := [.data, .pinned], laidTests := true, laidLooks := .later }
def RecBackCardSaid : Prop := Claim7.holds Tryd.pinned (.plain (OpenSpec.ofChange recBackSpec)) recBackCard

/-- THE SECOND FORM's CARD OF 'penstocklaw12.RecNames'. -/
def recNamesUptoCard : Claim7 := { stood := { row := recNamesUptoRow, standIns := [], harness := (true, "0d80035989d916de49994de436173f137f387215a145b561b16ad26fd0e0e3d2"), looks := false }, kinds := [], alts := [], laidByText := true, laidKinds := [.data, .pinned], laidTests := true, laidLooks := .later }
def RecNamesUptoCardSaid : Prop := Claim7.holds Tryd.pinned (.plain (OpenSpec.upto recNamesSpec)) recNamesUptoCard

/-- THE SECOND FORM's CARD OF 'penstocklaw12.RecCodes'. -/
def recCodesUptoCard : Claim7 := { stood := { row := recCodesUptoRow, standIns := [], harness := (true, "0d80035989d916de49994de436173f137f387215a145b561b16ad26fd0e0e3d2"), looks := false }, kinds := [], alts := [], laidByText := true, laidKinds := [.data, .pinned], laidTests := true, laidLooks := .later }
def RecCodesUptoCardSaid : Prop := Claim7.holds Tryd.pinned (.plain (OpenSpec.upto recCodesSpec)) recCodesUptoCard

/-- THE SECOND FORM's CARD OF 'penstocklaw12.RecFields'. -/
def recFieldsUptoCard : Claim7 := { stood := { row := recFieldsUptoRow, standIns := [], harness := (true, "0d80035989d916de49994de436173f137f387215a145b561b16ad26fd0e0e3d2"), looks := false }, kinds := [], alts := [], laidByText := true, laidKinds := [.data, .pinned], laidTests := true, laidLooks := .later }
def RecFieldsUptoCardSaid : Prop := Claim7.holds Tryd.pinned (.plain (OpenSpec.upto recFieldsSpec)) recFieldsUptoCard

/-- THE SECOND FORM's CARD OF 'penstocklaw12.RecBack'. -/
def recBackUptoCard : Claim7 := { stood := { row := recBackUptoRow, standIns := [], harness := (true, "0d80035989d916de49994de436173f137f387215a145b561b16ad26fd0e0e3d2"), looks := false }, kinds := [], alts := [], laidByText := true, laidKinds := [.data, .pinned], laidTests := true, laidLooks := .later }
def RecBackUptoCardSaid : Prop := Claim7.holds Tryd.pinned (.plain (OpenSpec.upto recBackSpec)) recBackUptoCard
end Rows
end Go.Proofs.YthafeaclpcjjbaaDoor
