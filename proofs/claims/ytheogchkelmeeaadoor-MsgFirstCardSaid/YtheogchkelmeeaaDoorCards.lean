/-
  DERIVED. GIVEN WITH THE SEED: THE CARDS: each row of YtheogchkelmeeaaDoorRows.lean that lists a variable, with what it lists TIED to the program's text (the seventh form; the later family's looks); each row that meets fmt, with fmt's text TOLD by the authors' own Lean function (tested against real Go, not proved from fmt's source: count such statements apart). THE CARD IS WHAT COUNTS. Prove the row's statement (the work); the ties are given (YtheogchkelmeeaaDoorTie.lean); close each card by the builder's one call (the guide's Derived/Test/ToyasCard.lean, 'card_holds'). Laid BY PROGRAM, IN A SANDBOX (cutbox-door.mjs). By AI agents, Wed Nov 11 2026. No macro, syntax, notation, axiom, sorry.
-/
import Derived.Test.YtheogchkelmeeaaDoorRows
import GoSem.ClaimSeven
namespace Go.Proofs.YtheogchkelmeeaaDoor
namespace Rows

/-- THE TIED CARD OF 'penstocklaw10.MsgAs'. -/
def msgAsCard : Claim7 := { stood := { row := msgAsRow, standIns := [], harness := (true, "3ba7ab261a3be9cdc3288989dc283109b6c9a7c3e908883edcc466a4e14d352f"), looks := true }, kinds := [], alts := [], laidByText := true, laidKinds := [.data, .pinned], laidTests := true, laidLooks := .later }
def MsgAsCardSaid : Prop := Claim7.holds Tryd.pinned (.plain (OpenSpec.ofChange msgAsSpec)) msgAsCard

/-- THE TIED CARD OF 'penstocklaw10.MsgCodes'. -/
def msgCodesCard : Claim7 := { stood := { row := msgCodesRow, standIns := [], harness := (true, "3ba7ab261a3be9cdc3288989dc283109b6c9a7c3e908883edcc466a4e14d352f"), looks := true }, kinds := [], alts := [], laidByText := true, laidKinds := [.data, .pinned], laidTests := true, laidLooks := .later }
def MsgCodesCardSaid : Prop := Claim7.holds Tryd.pinned (.plain (OpenSpec.ofChange msgCodesSpec)) msgCodesCard

/-- THE TIED CARD OF 'penstocklaw10.MsgOther'. -/
def msgOtherCard : Claim7 := { stood := { row := msgOtherRow, standIns := [], harness := (true, "3ba7ab261a3be9cdc3288989dc283109b6c9a7c3e908883edcc466a4e14d352f"), looks := true }, kinds := [], alts := [], laidByText := true, laidKinds := [.data, .pinned], laidTests := true, laidLooks := .later }
def MsgOtherCardSaid : Prop := Claim7.holds Tryd.pinned (.plain (OpenSpec.ofChange msgOtherSpec)) msgOtherCard

/-- THE TIED CARD OF 'penstocklaw10.MsgBack'. -/
def msgBackCard : Claim7 := { stood := { row := msgBackRow, standIns := [], harness := (true, "3ba7ab261a3be9cdc3288989dc283109b6c9a7c3e908883edcc466a4e14d352f"), looks := true }, kinds := [], alts := [], laidByText := true, laidKinds := [.data, .pinned], laidTests := true, laidLooks := .later }
def MsgBackCardSaid : Prop := Claim7.holds Tryd.pinned (.plain (OpenSpec.ofChange msgBackSpec)) msgBackCard

/-- THE TIED CARD OF 'penstocklaw10.MsgFirst'. -/
def msgFirstCard : Claim7 := { stood := { row := msgFirstRow, standIns := [], harness := (true, "3ba7ab261a3be9cdc3288989dc283109b6c9a7c3e908883edcc466a4e14d352f"), looks := true }, kinds := [], alts := [], laidByText := true, laidKinds := [.data, .pinned], laidTests := true, laidLooks := .later }
def MsgFirstCardSaid : Prop := Claim7.holds Tryd.pinned (.plain (OpenSpec.ofChange msgFirstSpec)) msgFirstCard

/-- THE SECOND FORM's CARD OF 'penstocklaw10.MsgAs'. -/
def msgAsUptoCard : Claim7 := { stood := { row := msgAsUptoRow, standIns := [], harness := (true, "3ba7ab261a3be9cdc3288989dc283109b6c9a7c3e908883edcc466a4e14d352f"), looks := true }, kinds := [], alts := [], laidByText := true, laidKinds := [.data, .pinned], laidTests := true, laidLooks := .later }
def MsgAsUptoCardSaid : Prop := Claim7.holds Tryd.pinned (.plain (OpenSpec.upto msgAsSpec)) msgAsUptoCard

/-- THE SECOND FORM's CARD OF 'penstocklaw10.MsgCodes'. -/
def msgCodesUptoCard : Claim7 := { stood := { row := msgCodesUptoRow, standIns := [], harness := (true, "3ba7ab261a3be9cdc3288989dc283109b6c9a7c3e908883edcc466a4e14d352f"), looks := true }, kinds := [], alts := [], laidByText := true, laidKinds := [.data, .pinned], laidTests := true, laidLooks := .later }
def MsgCodesUptoCardSaid : Prop := Claim7.holds Tryd.pinned (.plain (OpenSpec.upto msgCodesSpec)) msgCodesUptoCard

/-- THE SECOND FORM's CARD OF 'penstocklaw10.MsgOther'. -/
def msgOtherUptoCard : Claim7 := { stood := { row := msgOtherUptoRow, standIns := [], harness := (true, "3ba7ab261a3be9cdc3288989dc283109b6c9a7c3e908883edcc466a4e14d352f"), looks := true }, kinds := [], alts := [], laidByText := true, laidKinds := [.data, .pinned], laidTests := true, laidLooks := .later }
def MsgOtherUptoCardSaid : Prop := Claim7.holds Tryd.pinned (.plain (OpenSpec.upto msgOtherSpec)) msgOtherUptoCard

/-- THE SECOND FORM's CARD OF 'penstocklaw10.MsgBack'. -/
def msgBackUptoCard : Claim7 := { stood := { row := msgBackUptoRow, standIns := [], harness := (true, "3ba7ab261a3be9cdc3288989dc283109b6c9a7c3e908883edcc466a4e14d352f"), looks := true }, kinds := [], alts := [], laidByText := true, laidKinds := [.data, .pinned], laidTests := true, laidLooks := .later }
def MsgBackUptoCardSaid : Prop := Claim7.holds Tryd.pinned (.plain (OpenSpec.upto msgBackSpec)) msgBackUptoCard

/-- THE SECOND FORM's CARD OF 'penstocklaw10.MsgFirst'. -/
def msgFirstUptoCard : Claim7 := { stood := { row := msgFirstUptoRow, standIns := [], harness := (true, "3ba7ab261a3be9cdc3288989dc283109b6c9a7c3e908883edcc466a4e14d352f"), looks := true }, kinds := [], alts := [], laidByText := true, laidKinds := [.data, .pinned], laidTests := true, laidLooks := .later }
def MsgFirstUptoCardSaid : Prop := Claim7.holds Tryd.pinned (.plain (OpenSpec.upto msgFirstSpec)) msgFirstUptoCard
end Rows
end Go.Proofs.YtheogchkelmeeaaDoor
