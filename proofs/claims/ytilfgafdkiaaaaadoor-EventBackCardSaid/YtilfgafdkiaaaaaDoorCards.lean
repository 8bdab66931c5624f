/-
  DERIVED. GIVEN WITH THE SEED: THE CARDS: each row of YtilfgafdkiaaaaaDoorRows.lean that lists a variable, with what it lists TIED to the program's text (the seventh form; the later family's looks); each row that meets fmt, with fmt's text TOLD by the authors' own Lean function (tested against real Go, not proved from fmt's source: count such statements apart). THE CARD IS WHAT COUNTS. Prove the row's statement (the work); the ties are given (YtilfgafdkiaaaaaDoorTie.lean); close each card by the builder's one call (the guide's Derived/Test/ToyasCard.lean, 'card_holds'). Laid BY PROGRAM, IN A SANDBOX (cutbox-door.mjs). By AI agents, Wed Nov 11 2026. No macro, syntax, notation, axiom, sorry.
-/
import Derived.Test.YtilfgafdkiaaaaaDoorRows
import GoSem.ClaimSeven
namespace Go.Proofs.YtilfgafdkiaaaaaDoor
namespace Rows

/-- THE TIED CARD OF 'penstocklaw9.EventLimits'. -/
def eventLimitsCard : Claim7 := { stood := { row := eventLimitsRow, standIns := [], harness := (true, "72ec3ca35c8dbf6159f7e9fc4a3d54c92d5eb2d53632ce0ad2f600cb51902bab"), looks := false }, kinds := [], alts := [], laidByText := true, laidKinds := [.data, .pinned], laidTests := true, laidLooks := .later }
def EventLimitsCardSaid : Prop := Claim7.holds Tryd.pinned (.plain (OpenSpec.ofChange eventLimitsSpec)) eventLimitsCard

/-- THE TIED CARD OF 'penstocklaw9.EventRuns'. -/
def eventRunsCard : Claim7 := { stood := { row := eventRunsRow, standIns := [], harness := (true, "72ec3ca35c8dbf6159f7e9fc4a3d54c92d5eb2d53632ce0ad2f600cb51902bab"), looks := false }, kinds := [], alts := [], laidByText := true, laidKinds := [.data, .pinned], laidTests := true, laidLooks := .later }
def EventRunsCardSaid : Prop := Claim7.holds Tryd.pinned (.plain (OpenSpec.ofChange eventRunsSpec)) eventRunsCard

/-- THE TIED CARD OF 'penstocklaw9.EventEvents'. -/
def eventEventsCard : Claim7 := { stood := { row := eventEventsRow, standIns := [], harness := (true, "72ec3ca35c8dbf6159f7e9fc4a3d54c92d5eb2d53632ce0ad2f600cb51902bab"), looks := false }, kinds := [], alts := [], laidByText := true, laidKinds := [.data, .pinned], laidTests := true, laidLooks := .later }
def EventEventsCardSaid : Prop := Claim7.holds Tryd.pinned (.plain (OpenSpec.ofChange eventEventsSpec)) eventEventsCard

/-- THE TIED CARD OF 'penstocklaw9.EventStreams'. -/
def eventStreamsCard : Claim7 := { stood := { row := eventStreamsRow, standIns := [], harness := (true, "72ec3ca35c8dbf6159f7e9fc4a3d54c92d5eb2d53632ce0ad2f600cb51902bab"), looks := false }, kinds := [], alts := [], laidByText := true, laidKinds := [.data, .pinned], laidTests := true, laidLooks := .later }
def EventStreamsCardSaid : Prop := Claim7.holds Tryd.pinned (.plain (OpenSpec.ofChange eventStreamsSpec)) eventStreamsCard

/-- THE TIED CARD OF 'penstocklaw9.EventBatches'. -/
def eventBatchesCard : Claim7 := { stood := { row := eventBatchesRow, standIns := [], harness := (true, "72ec3ca35c8dbf6159f7e9fc4a3d54c92d5eb2d53632ce0ad2f600cb51902bab"), looks := false }, kinds := [], alts := [], laidByText := true, laidKinds := [.data, .pinned], laidTests := true, laidLooks := .later }
def EventBatchesCardSaid : Prop := Claim7.holds Tryd.pinned (.plain (OpenSpec.ofChange eventBatchesSpec)) eventBatchesCard

/-- THE TIED CARD OF 'penstocklaw9.EventBack'. -/
def eventBackCard : Claim7 := { stood := { row := eventBackRow, standIns := [], harness := (true, "72ec3ca35c8dbf6159f7e9fc4a3d54c92d5eb2d53632ce0ad2f600cb51902bab"), looks := false }, kinds := [], alts := [], laidByText := true, laidKinds := [.data, .pinned], laidTests := true, laidLooks := .later }
def EventBackCardSaid : Prop := Claim7.holds Tryd.pinned (.plain (OpenSpec.ofChange eventBackSpec)) eventBackCard

/-- THE SECOND FORM's CARD OF 'penstocklaw9.EventLimits'. -/
def eventLimitsUptoCard : Claim7 := { stood := { row := eventLimitsUptoRow, standIns := [], harness := (true, "72ec3ca35c8dbf6159f7e9fc4a3d54c92d5eb2d53632ce0ad2f600cb51902bab"), looks := false }, kinds := [], alts := [], laidByText := true, laidKinds := [.data, .pinned], laidTests := true, laidLooks := .later }
def EventLimitsUptoCardSaid : Prop := Claim7.holds Tryd.pinned (.plain (OpenSpec.upto eventLimitsSpec)) eventLimitsUptoCard

/-- THE SECOND FORM's CARD OF 'penstocklaw9.EventRuns'. -/
def eventRunsUptoCard : Claim7 := { stood := { row := eventRunsUptoRow, standIns := [], harness := (true, "72ec3ca35c8dbf6159f7e9fc4a3d54c92d5eb2d53632ce0ad2f600cb51902bab"), looks := false }, kinds := [], alts := [], laidByText := true, laidKinds := [.data, .pinned], laidTests := true, laidLooks := .later }
def EventRunsUptoCardSaid : Prop := Claim7.holds Tryd.pinned (.plain (OpenSpec.upto eventRunsSpec)) eventRunsUptoCard

/-- THE SECOND FORM's CARD OF 'penstocklaw9.EventEvents'. -/
def eventEventsUptoCard : Claim7 := { stood := { row := eventEventsUptoRow, standIns := [], harness := (true, "72ec3ca35c8dbf6159f7e9fc4a3d54c92d5eb2d53632ce0ad2f600cb51902bab"), looks := false }, kinds := [], alts := [], laidByText := true, laidKinds := [.data, .pinned], laidTests := true, laidLooks := .later }
def EventEventsUptoCardSaid : Prop := Claim7.holds Tryd.pinned (.plain (OpenSpec.upto eventEventsSpec)) eventEventsUptoCard

/-- THE SECOND FORM's CARD OF 'penstocklaw9.EventStreams'. -/
def eventStreamsUptoCard : Claim7 := { stood := { row := eventStreamsUptoRow, standIns := [], harness := (true, "72ec3ca35c8dbf6159f7e9fc4a3d54c92d5eb2d53632ce0ad2f600cb51902bab"), looks := false }, kinds := [], alts := [], laidByText := true, laidKinds := [.data, .pinned], laidTests := true, laidLooks := .later }
def EventStreamsUptoCardSaid : Prop := Claim7.holds Tryd.pinned (.plain (OpenSpec.upto eventStreamsSpec)) eventStreamsUptoCard

/-- THE SECOND FORM's CARD OF 'penstocklaw9.EventBatches'. -/
def eventBatchesUptoCard : Claim7 := { stood := { row := eventBatchesUptoRow, standIns := [], harness := (true, "72ec3ca35c8dbf6159f7e9fc4a3d54c92d5eb2d53632ce0ad2f600cb51902bab"), looks := false }, kinds := [], alts := [], laidByText := true, laidKinds := [.data, .pinned], laidTests := true, laidLooks := .later }
def EventBatchesUptoCardSaid : Prop := Claim7.holds Tryd.pinned (.plain (OpenSpec.upto eventBatchesSpec)) eventBatchesUptoCard

/-- THE SECOND FORM's CARD OF 'penstocklaw9.EventBack'. -/
def eventBackUptoCard : Claim7 := { stood := { row := eventBackUptoRow, standIns := [], harness := (true, "72ec3ca35c8dbf6159f7e9fc4a3d54c92d5eb2d53632ce0ad2f600cb51902bab"), looks := false }, kinds := [], alts := [], laidByText := true, laidKinds := [.data, .pinned], laidTests := true, laidLooks := .later }
def EventBackUptoCardSaid : Prop := Claim7.holds Tryd.pinned (.plain (OpenSpec.upto eventBackSpec)) eventBackUptoCard
end Rows
end Go.Proofs.YtilfgafdkiaaaaaDoor
