/-
  DERIVED. GIVEN WITH THE SEED: THE CARDS: each row of YthhhobfdlgmjlaaDoorRows.lean that lists a variable, with what it lists TIED to the program's text (the seventh form; the later family's looks); each row that meets fmt, with fmt's text TOLD by the authors' own Lean function (tested against real Go, not proved from fmt's source: count such statements apart). THE CARD IS WHAT COUNTS. Prove the row's statement (the work); the ties are given (YthhhobfdlgmjlaaDoorTie.lean); close each card by the builder's one call (the guide's Derived/Test/ToyasCard.lean, 'card_holds'). Laid BY PROGRAM, IN A SANDBOX (cutbox-door.mjs). By AI agents, Wed Nov 11 2026. No macro, syntax, notation, axiom, sorry.
-/
import Derived.Test.YthhhobfdlgmjlaaDoorRows
import GoSem.ClaimSeven
namespace Go.Proofs.YthhhobfdlgmjlaaDoor
namespace Rows

/-- THE TIED CARD OF 'penstocklaw20.FeedWhole'. -/
def feedWholeCard : Claim7 := { stood := { row := feedWholeRow, standIns := [], harness := (true, "99df07c4233e11c9f4bddad8ae3165cdf65fe8bba4edad720ec1b2c3370b9eb3"), looks := false }, kinds := [], alts := [], laidByText := true, laidKinds := [.data, .pinned], laidTests := true, laidLooks := .later }
def FeedWholeCardSaid : Prop := Claim7.holds Tryd.pinned (.plain (OpenSpec.ofChange feedWholeSpec)) feedWholeCard

/-- THE TIED CARD OF 'penstocklaw20.FeedOnly'. -/
def feedOnlyCard : Claim7 := { stood := { row := feedOnlyRow, standIns := [], harness := (true, "99df07c4233e11c9f4bddad8ae3165cdf65fe8bba4edad720ec1b2c3370b9eb3"), looks := false }, kinds := [], alts := [], laidByText := true, laidKinds := [.data, .pinned], laidTests := true, laidLooks := .later }
def FeedOnlyCardSaid : Prop := Claim7.holds Tryd.pinned (.plain (OpenSpec.ofChange feedOnlySpec)) feedOnlyCard

/-- THE TIED CARD OF 'penstocklaw20.FeedRefused'. -/
def feedRefusedCard : Claim7 := { stood := { row := feedRefusedRow, standIns := [], harness := (true, "99df07c4233e11c9f4bddad8ae3165cdf65fe8bba4edad720ec1b2c3370b9eb3"), looks := false }, kinds := [], alts := [], laidByText := true, laidKinds := [.data, .pinned], laidTests := true, laidLooks := .later }
def FeedRefusedCardSaid : Prop := Claim7.holds Tryd.pinned (.plain (OpenSpec.ofChange feedRefusedSpec)) feedRefusedCard

/-- THE TIED CARD OF 'penstocklaw20.FeedTwo'. -/
def feedTwoCard : Claim7 := { stood := { row := feedTwoRow, standIns := [], harness := (true, "99df07c4233e11c9f4bddad8ae3165cdf65fe8bba4edad720ec1b2c3370b9eb3"), looks := false }, kinds := [], alts := [], laidByText := true, laidKinds := [.data, .pinned], laidTests := true, laidLooks := .later }
def FeedTwoCardSaid : Prop := Claim7.holds Tryd.pinned (.plain (OpenSpec.ofChange feedTwoSpec)) feedTwoCard

/-- THE SECOND FORM's CARD OF 'penstocklaw20.FeedWhole'. -/
def feedWholeUptoCard : Claim7 := { stood := { row := feedWholeUptoRow, standIns := [], harness := (true, "99df07c4233e11c9f4bddad8ae3165cdf65fe8bba4edad720ec1b2c3370b9eb3"), looks := false }, kinds := [], alts := [], laidByText := true, laidKinds := [.data, .pinned], laidTests := true, laidLooks := .later }
def FeedWholeUptoCardSaid : Prop := Claim7.holds Tryd.pinned (.plain (OpenSpec.upto feedWholeSpec)) feedWholeUptoCard

/-- THE SECOND FORM's CARD OF 'penstocklaw20.FeedOnly'. -/
def feedOnlyUptoCard : Claim7 := { stood := { row := feedOnlyUptoRow, standIns := [], harness := (true, "99df07c4233e11c9f4bddad8ae3165cdf65fe8bba4edad720ec1b2c3370b9eb3"), looks := false }, kinds := [], alts := [], laidByText := true, laidKinds := [.data, .pinned], laidTests := true, laidLooks := .later }
def FeedOnlyUptoCardSaid : Prop := Claim7.holds Tryd.pinned (.plain (OpenSpec.upto feedOnlySpec)) feedOnlyUptoCard

/-- THE SECOND FORM's CARD OF 'penstocklaw20.FeedRefused'. -/
def feedRefusedUptoCard : Claim7 := { stood := { row := feedRefusedUptoRow, standIns := [], harness := (true, "99df07c4233e11c9f4bddad8ae3165cdf65fe8bba4edad720ec1b2c3370b9eb3"), looks := false }, kinds := [], alts := [], laidByText := true, laidKinds := [.data, .pinned], laidTests := true, laidLooks := .later }
def FeedRefusedUptoCardSaid : Prop := Claim7.holds Tryd.pinned (.plain (OpenSpec.upto feedRefusedSpec)) feedRefusedUptoCard

/-- THE SECOND FORM's CARD OF 'penstocklaw20.FeedTwo'. -/
def feedTwoUptoCard : Claim7 := { stood := { row := feedTwoUptoRow, standIns := [], harness := (true, "99df07c4233e11c9f4bddad8ae3165cdf65fe8bba4edad720ec1b2c3370b9eb3"), looks := false }, kinds := [], alts := [], laidByText := true, laidKinds := [.data, .pinned], laidTests := true, laidLooks := .later }
def FeedTwoUptoCardSaid : Prop := Claim7.holds Tryd.pinned (.plain (OpenSpec.upto feedTwoSpec)) feedTwoUptoCard
end Rows
end Go.Proofs.YthhhobfdlgmjlaaDoor
