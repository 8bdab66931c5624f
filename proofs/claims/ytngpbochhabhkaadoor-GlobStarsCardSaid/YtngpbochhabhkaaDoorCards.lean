/-
  DERIVED. GIVEN WITH THE SEED: THE CARDS: each row of YtngpbochhabhkaaDoorRows.lean that lists a variable, with what it lists TIED to the program's text (the seventh form; the later family's looks); each row that meets fmt, with fmt's text TOLD by the authors' own Lean function (tested against real Go, not proved from fmt's source: count such statements apart). THE CARD IS WHAT COUNTS. Prove the row's statement (the work); the ties are given (YtngpbochhabhkaaDoorTie.lean); close each card by the builder's one call (the guide's Derived/Test/ToyasCard.lean, 'card_holds'). Laid BY PROGRAM, IN A SANDBOX (cutbox-door.mjs). By AI agents, Wed Nov 11 2026. No macro, syntax, notation, axiom, sorry.
-/
import Derived.Test.YtngpbochhabhkaaDoorRows
import GoSem.ClaimSeven
namespace Go.Proofs.YtngpbochhabhkaaDoor
namespace Rows

/-- THE TIED CARD OF 'penstocklaw2.GlobPlain'. -/
def globPlainCard : Claim7 := { stood := { row := globPlainRow, standIns := [], harness := (true, "630d76e045c27ed55f53b0692b80a51baba8ed35fca2e3028d21a5fd671d8e7d"), looks := false }, kinds := [], alts := [], laidByText := true, laidKinds := [.data, .pinned], laidTests := true, laidLooks := .later }
def GlobPlainCardSaid : Prop := Claim7.holds Tryd.pinned (.plain (OpenSpec.ofChange globPlainSpec)) globPlainCard

/-- THE TIED CARD OF 'penstocklaw2.GlobStars'. -/
def globStarsCard : Claim7 := { stood := { row := globStarsRow, standIns := [], harness := (true, "630d76e045c27ed55f53b0692b80a51baba8ed35fca2e3028d21a5fd671d8e7d"), looks := false }, kinds := [], alts := [], laidByText := true, laidKinds := [.data, .pinned], laidTests := true, laidLooks := .later }
def GlobStarsCardSaid : Prop := Claim7.holds Tryd.pinned (.plain (OpenSpec.ofChange globStarsSpec)) globStarsCard

/-- THE TIED CARD OF 'penstocklaw2.GlobSets'. -/
def globSetsCard : Claim7 := { stood := { row := globSetsRow, standIns := [], harness := (true, "630d76e045c27ed55f53b0692b80a51baba8ed35fca2e3028d21a5fd671d8e7d"), looks := false }, kinds := [], alts := [], laidByText := true, laidKinds := [.data, .pinned], laidTests := true, laidLooks := .later }
def GlobSetsCardSaid : Prop := Claim7.holds Tryd.pinned (.plain (OpenSpec.ofChange globSetsSpec)) globSetsCard

/-- THE TIED CARD OF 'penstocklaw2.GlobQuotes'. -/
def globQuotesCard : Claim7 := { stood := { row := globQuotesRow, standIns := [], harness := (true, "630d76e045c27ed55f53b0692b80a51baba8ed35fca2e3028d21a5fd671d8e7d"), looks := false }, kinds := [], alts := [], laidByText := true, laidKinds := [.data, .pinned], laidTests := true, laidLooks := .later }
def GlobQuotesCardSaid : Prop := Claim7.holds Tryd.pinned (.plain (OpenSpec.ofChange globQuotesSpec)) globQuotesCard

/-- THE TIED CARD OF 'penstocklaw2.GlobMany'. -/
def globManyCard : Claim7 := { stood := { row := globManyRow, standIns := [], harness := (true, "630d76e045c27ed55f53b0692b80a51baba8ed35fca2e3028d21a5fd671d8e7d"), looks := false }, kinds := [], alts := [], laidByText := true, laidKinds := [.data, .pinned], laidTests := true, laidLooks := .later }
def GlobManyCardSaid : Prop := Claim7.holds Tryd.pinned (.plain (OpenSpec.ofChange globManySpec)) globManyCard

/-- THE TIED CARD OF 'penstocklaw2.GlobJoin'. -/
def globJoinCard : Claim7 := { stood := { row := globJoinRow, standIns := [], harness := (true, "630d76e045c27ed55f53b0692b80a51baba8ed35fca2e3028d21a5fd671d8e7d"), looks := false }, kinds := [], alts := [], laidByText := true, laidKinds := [.data, .pinned], laidTests := true, laidLooks := .later }
def GlobJoinCardSaid : Prop := Claim7.holds Tryd.pinned (.plain (OpenSpec.ofChange globJoinSpec)) globJoinCard

/-- THE TIED CARD OF 'penstocklaw2.GlobLimit'. -/
def globLimitCard : Claim7 := { stood := { row := globLimitRow, standIns := [], harness := (true, "630d76e045c27ed55f53b0692b80a51baba8ed35fca2e3028d21a5fd671d8e7d"), looks := false }, kinds := [], alts := [], laidByText := true, laidKinds := [.data, .pinned], laidTests := true, laidLooks := .later }
def GlobLimitCardSaid : Prop := Claim7.holds Tryd.pinned (.plain (OpenSpec.ofChange globLimitSpec)) globLimitCard

/-- THE SECOND FORM's CARD OF 'penstocklaw2.GlobPlain'. -/
def globPlainUptoCard : Claim7 := { stood := { row := globPlainUptoRow, standIns := [], harness := (true, "630d76e045c27ed55f53b0692b80a51baba8ed35fca2e3028d21a5fd671d8e7d"), looks := false }, kinds := [], alts := [], laidByText := true, laidKinds := [.data, .pinned], laidTests := true, laidLooks := .later }
def GlobPlainUptoCardSaid : Prop := Claim7.holds Tryd.pinned (.plain (OpenSpec.upto globPlainSpec)) globPlainUptoCard

/-- THE SECOND FORM's CARD OF 'penstocklaw2.GlobStars'. -/
def globStarsUptoCard : Claim7 := { stood := { row := globStarsUptoRow, standIns := [], harness := (true, "630d76e045c27ed55f53b0692b80a51baba8ed35fca2e3028d21a5fd671d8e7d"), looks := false }, kinds := [], alts := [], laidByText := true, laidKinds := [.data, .pinned], laidTests := true, laidLooks := .later }
def GlobStarsUptoCardSaid : Prop := Claim7.holds Tryd.pinned (.plain (OpenSpec.upto globStarsSpec)) globStarsUptoCard

/-- THE SECOND FORM's CARD OF 'penstocklaw2.GlobSets'. -/
def globSetsUptoCard : Claim7 := { stood := { row := globSetsUptoRow, standIns := [], harness := (true, "630d76e045c27ed55f53b0692b80a51baba8ed35fca2e3028d21a5fd671d8e7d"), looks := false }, kinds := [], alts := [], laidByText := true, laidKinds := [.data, .pinned], laidTests := true, laidLooks := .later }
def GlobSetsUptoCardSaid : Prop := Claim7.holds Tryd.pinned (.plain (OpenSpec.upto globSetsSpec)) globSetsUptoCard

/-- THE SECOND FORM's CARD OF 'penstocklaw2.GlobQuotes'. -/
def globQuotesUptoCard : Claim7 := { stood := { row := globQuotesUptoRow, standIns := [], harness := (true, "630d76e045c27ed55f53b0692b80a51baba8ed35fca2e3028d21a5fd671d8e7d"), looks := false }, kinds := [], alts := [], laidByText := true, laidKinds := [.data, .pinned], laidTests := true, laidLooks := .later }
def GlobQuotesUptoCardSaid : Prop := Claim7.holds Tryd.pinned (.plain (OpenSpec.upto globQuotesSpec)) globQuotesUptoCard

/-- THE SECOND FORM's CARD OF 'penstocklaw2.GlobMany'. -/
def globManyUptoCard : Claim7 := { stood := { row := globManyUptoRow, standIns := [], harness := (true, "630d76e045c27ed55f53b0692b80a51baba8ed35fca2e3028d21a5fd671d8e7d"), looks := false }, kinds := [], alts := [], laidByText := true, laidKinds := [.data, .pinned], laidTests := true, laidLooks := .later }
def GlobManyUptoCardSaid : Prop := Claim7.holds Tryd.pinned (.plain (OpenSpec.upto globManySpec)) globManyUptoCard

/-- THE SECOND FORM's CARD OF 'penstocklaw2.GlobJoin'. -/
def globJoinUptoCard : Claim7 := { stood := { row := globJoinUptoRow, standIns := [], harness := (true, "630d76e045c27ed55f53b0692b80a51baba8ed35fca2e3028d21a5fd671d8e7d"), looks := false }, kinds := [], alts := [], laidByText := true, laidKinds := [.data, .pinned], laidTests := true, laidLooks := .later }
def GlobJoinUptoCardSaid : Prop := Claim7.holds Tryd.pinned (.plain (OpenSpec.upto globJoinSpec)) globJoinUptoCard

/-- THE SECOND FORM's CARD OF 'penstocklaw2.GlobLimit'. -/
def globLimitUptoCard : Claim7 := { stood := { row := globLimitUptoRow, standIns := [], harness := (true, "630d76e045c27ed55f53b0692b80a51baba8ed35fca2e3028d21a5fd671d8e7d"), looks := false }, kinds := [], alts := [], laidByText := true, laidKinds := [.data, .pinned], laidTests := true, laidLooks := .later }
def GlobLimitUptoCardSaid : Prop := Claim7.holds Tryd.pinned (.plain (OpenSpec.upto globLimitSpec)) globLimitUptoCard
end Rows
end Go.Proofs.YtngpbochhabhkaaDoor
