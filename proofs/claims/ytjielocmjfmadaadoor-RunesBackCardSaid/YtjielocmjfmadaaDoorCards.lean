/-
  DERIVED. GIVEN WITH THE SEED: THE CARDS: each row of YtjielocmjfmadaaDoorRows.lean that lists a variable, with what it lists TIED to the program's text (the seventh form; the later family's looks); each row that meets fmt, with fmt's text TOLD by the authors' own Lean function (tested against real Go, not proved from fmt's source: count such statements apart). THE CARD IS WHAT COUNTS. Prove the row's statement (the work); the ties are given (YtjielocmjfmadaaDoorTie.lean); close each card by the builder's one call (the guide's Derived/Test/ToyasCard.lean, 'card_holds'). Laid BY PROGRAM, IN A SANDBOX (cutbox-door.mjs). By AI agents, Wed Nov 11 2026. No macro, syntax, notation, axiom, sorry.
-/
import Derived.Test.YtjielocmjfmadaaDoorRows
import GoSem.ClaimSeven
namespace Go.Proofs.YtjielocmjfmadaaDoor
namespace Rows

/-- THE TIED CARD OF 'penstocklaw1.RunesWalk'. -/
def runesWalkCard : Claim7 := { stood := { row := runesWalkRow, standIns := [], harness := (true, "13c63194a3f87e987f135f51a2d763fd25735cdc254c9414bea9cd678d0d9682"), looks := false }, kinds := [], alts := [], laidByText := true, laidKinds := [.data, .pinned], laidTests := true, laidLooks := .later }
def RunesWalkCardSaid : Prop := Claim7.holds Tryd.pinned (.plain (OpenSpec.ofChange runesWalkSpec)) runesWalkCard

/-- THE TIED CARD OF 'penstocklaw1.RunesCount'. -/
def runesCountCard : Claim7 := { stood := { row := runesCountRow, standIns := [], harness := (true, "13c63194a3f87e987f135f51a2d763fd25735cdc254c9414bea9cd678d0d9682"), looks := false }, kinds := [], alts := [], laidByText := true, laidKinds := [.data, .pinned], laidTests := true, laidLooks := .later }
def RunesCountCardSaid : Prop := Claim7.holds Tryd.pinned (.plain (OpenSpec.ofChange runesCountSpec)) runesCountCard

/-- THE TIED CARD OF 'penstocklaw1.RunesQuotes'. -/
def runesQuotesCard : Claim7 := { stood := { row := runesQuotesRow, standIns := [], harness := (true, "13c63194a3f87e987f135f51a2d763fd25735cdc254c9414bea9cd678d0d9682"), looks := false }, kinds := [], alts := [], laidByText := true, laidKinds := [.data, .pinned], laidTests := true, laidLooks := .later }
def RunesQuotesCardSaid : Prop := Claim7.holds Tryd.pinned (.plain (OpenSpec.ofChange runesQuotesSpec)) runesQuotesCard

/-- THE TIED CARD OF 'penstocklaw1.RunesJoin'. -/
def runesJoinCard : Claim7 := { stood := { row := runesJoinRow, standIns := [], harness := (true, "13c63194a3f87e987f135f51a2d763fd25735cdc254c9414bea9cd678d0d9682"), looks := false }, kinds := [], alts := [], laidByText := true, laidKinds := [.data, .pinned], laidTests := true, laidLooks := .later }
def RunesJoinCardSaid : Prop := Claim7.holds Tryd.pinned (.plain (OpenSpec.ofChange runesJoinSpec)) runesJoinCard

/-- THE TIED CARD OF 'penstocklaw1.RunesLimits'. -/
def runesLimitsCard : Claim7 := { stood := { row := runesLimitsRow, standIns := [], harness := (true, "13c63194a3f87e987f135f51a2d763fd25735cdc254c9414bea9cd678d0d9682"), looks := false }, kinds := [], alts := [], laidByText := true, laidKinds := [.data, .pinned], laidTests := true, laidLooks := .later }
def RunesLimitsCardSaid : Prop := Claim7.holds Tryd.pinned (.plain (OpenSpec.ofChange runesLimitsSpec)) runesLimitsCard

/-- THE TIED CARD OF 'penstocklaw1.RunesFold'. -/
def runesFoldCard : Claim7 := { stood := { row := runesFoldRow, standIns := [], harness := (true, "13c63194a3f87e987f135f51a2d763fd25735cdc254c9414bea9cd678d0d9682"), looks := false }, kinds := [], alts := [], laidByText := true, laidKinds := [.data, .pinned], laidTests := true, laidLooks := .later }
def RunesFoldCardSaid : Prop := Claim7.holds Tryd.pinned (.plain (OpenSpec.ofChange runesFoldSpec)) runesFoldCard

/-- THE TIED CARD OF 'penstocklaw1.RunesNames'. -/
def runesNamesCard : Claim7 := { stood := { row := runesNamesRow, standIns := [], harness := (true, "13c63194a3f87e987f135f51a2d763fd25735cdc254c9414bea9cd678d0d9682"), looks := false }, kinds := [], alts := [], laidByText := true, laidKinds := [.data, .pinned], laidTests := true, laidLooks := .later }
def RunesNamesCardSaid : Prop := Claim7.holds Tryd.pinned (.plain (OpenSpec.ofChange runesNamesSpec)) runesNamesCard

/-- THE TIED CARD OF 'penstocklaw1.RunesBack'. -/
def runesBackCard : Claim7 := { stood := { row := runesBackRow, standIns := [], harness := (true, "13c63194a3f87e987f135f51a2d763fd25735cdc254c9414bea9cd678d0d9682"), looks := false }, kinds := [], alts := [], laidByText := true, laidKinds := [.data, .pinned], laidTests := true, laidLooks := .later }
def RunesBackCardSaid : Prop := Claim7.holds Tryd.pinned (.plain (OpenSpec.ofChange runesBackSpec)) runesBackCard

/-- THE SECOND FORM's CARD OF 'penstocklaw1.RunesWalk'. -/
def runesWalkUptoCard : Claim7 := { stood := { row := runesWalkUptoRow, standIns := [], harness := (true, "13c63194a3f87e987f135f51a2d763fd25735cdc254c9414bea9cd678d0d9682"), looks := false }, kinds := [], alts := [], laidByText := true, laidKinds := [.data, .pinned], laidTests := true, laidLooks := .later }
def RunesWalkUptoCardSaid : Prop := Claim7.holds Tryd.pinned (.plain (OpenSpec.upto runesWalkSpec)) runesWalkUptoCard

/-- THE SECOND FORM's CARD OF 'penstocklaw1.RunesCount'. -/
def runesCountUptoCard : Claim7 := { stood := { row := runesCountUptoRow, standIns := [], harness := (true, "13c63194a3f87e987f135f51a2d763fd25735cdc254c9414bea9cd678d0d9682"), looks := false }, kinds := [], alts := [], laidByText := true, laidKinds := [.data, .pinned], laidTests := true, laidLooks := .later }
def RunesCountUptoCardSaid : Prop := Claim7.holds Tryd.pinned (.plain (OpenSpec.upto runesCountSpec)) runesCountUptoCard

/-- THE SECOND FORM's CARD OF 'penstocklaw1.RunesQuotes'. -/
def runesQuotesUptoCard : Claim7 := { stood := { row := runesQuotesUptoRow, standIns := [], harness := (true, "13c63194a3f87e987f135f51a2d763fd25735cdc254c9414bea9cd678d0d9682"), looks := false }, kinds := [], alts := [], laidByText := true, laidKinds := [.data, .pinned], laidTests := true, laidLooks := .later }
def RunesQuotesUptoCardSaid : Prop := Claim7.holds Tryd.pinned (.plain (OpenSpec.upto runesQuotesSpec)) runesQuotesUptoCard

/-- THE SECOND FORM's CARD OF 'penstocklaw1.RunesJoin'. -/
def runesJoinUptoCard : Claim7 := { stood := { row := runesJoinUptoRow, standIns := [], harness := (true, "13c63194a3f87e987f135f51a2d763fd25735cdc254c9414bea9cd678d0d9682"), looks := false }, kinds := [], alts := [], laidByText := true, laidKinds := [.data, .pinned], laidTests := true, laidLooks := .later }
def RunesJoinUptoCardSaid : Prop := Claim7.holds Tryd.pinned (.plain (OpenSpec.upto runesJoinSpec)) runesJoinUptoCard

/-- THE SECOND FORM's CARD OF 'penstocklaw1.RunesLimits'. -/
def runesLimitsUptoCard : Claim7 := { stood := { row := runesLimitsUptoRow, standIns := [], harness := (true, "13c63194a3f87e987f135f51a2d763fd25735cdc254c9414bea9cd678d0d9682"), looks := false }, kinds := [], alts := [], laidByText := true, laidKinds := [.data, .pinned], laidTests := true, laidLooks := .later }
def RunesLimitsUptoCardSaid : Prop := Claim7.holds Tryd.pinned (.plain (OpenSpec.upto runesLimitsSpec)) runesLimitsUptoCard

/-- THE SECOND FORM's CARD OF 'penstocklaw1.RunesFold'. -/
def runesFoldUptoCard : Claim7 := { stood := { row := runesFoldUptoRow, standIns := [], harness := (true, "13c63194a3f87e987f135f51a2d763fd25735cdc254c9414bea9cd678d0d9682"), looks := false }, kinds := [], alts := [], laidByText := true, laidKinds := [.data, .pinned], laidTests := true, laidLooks := .later }
def RunesFoldUptoCardSaid : Prop := Claim7.holds Tryd.pinned (.plain (OpenSpec.upto runesFoldSpec)) runesFoldUptoCard

/-- THE SECOND FORM's CARD OF 'penstocklaw1.RunesNames'. -/
def runesNamesUptoCard : Claim7 := { stood := { row := runesNamesUptoRow, standIns := [], harness := (true, "13c63194a3f87e987f135f51a2d763fd25735cdc254c9414bea9cd678d0d9682"), looks := false }, kinds := [], alts := [], laidByText := true, laidKinds := [.data, .pinned], laidTests := true, laidLooks := .later }
def RunesNamesUptoCardSaid : Prop := Claim7.holds Tryd.pinned (.plain (OpenSpec.upto runesNamesSpec)) runesNamesUptoCard

/-- THE SECOND FORM's CARD OF 'penstocklaw1.RunesBack'. -/
def runesBackUptoCard : Claim7 := { stood := { row := runesBackUptoRow, standIns := [], harness := (true, "13c63194a3f87e987f135f51a2d763fd25735cdc254c9414bea9cd678d0d9682"), looks := false }, kinds := [], alts := [], laidByText := true, laidKinds := [.data, .pinned], laidTests := true, laidLooks := .later }
def RunesBackUptoCardSaid : Prop := Claim7.holds Tryd.pinned (.plain (OpenSpec.upto runesBackSpec)) runesBackUptoCard
end Rows
end Go.Proofs.YtjielocmjfmadaaDoor
