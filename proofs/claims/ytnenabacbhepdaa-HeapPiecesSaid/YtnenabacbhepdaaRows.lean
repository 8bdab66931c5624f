/-
  No cell of these rows narrows 'for every input' (looked for: loops, veiled, ifaces, maps, wideKeys, modest, calm, conditions, laid).
  DERIVED. THE GIVEN ROWS OF THIS SEAT. 9 by the template 'for every input the law returns true; each argument reads behind the call as it read before'; 0 by the template 'total and deterministic' (their statements: YtnenabacbhepdaaTotals.lean).
  GIVEN WITH THE SEED: the statements are not yours to turn. If you find one false, say at which input.
  Laid BY PROGRAM, IN A SANDBOX (cutbox-rows.mjs): the forced cells as the released guide's own fill.sh prints them over the translation aadf8bc07053d6bb… (all of the seat's roots in one cut). By AI agents, Wed Nov 11 2026. No macro, syntax, notation, axiom, sorry.
-/
import Derived.Test.YtnenabacbhepdaaChecked
import GoSem.Claim
import GoSem.ClaimJoined
import GoSem.ClaimMapViews
import Derived.JoinedTies
import Derived.KernelRfl
namespace Go.Proofs.Ytnenabacbhepdaa
/- THE CELL 'sum', in the pinned program and in every row, IS THE sha256 OF THE DUMP (.gsa) THAT YtnenabacbhepdaaProg.lean LOADS. Nothing in Lean hashes anything: it is a label: what it is worth is what the hold of that sum in a sandbox is worth. -/
noncomputable def Try.pinned : Pinned := { name := "ytnenabacbhepdaa", sum := "aadf8bc07053d6bb978d6acacc8b27c4f0d779c0d4a6e9582ae7f4cd37d5cc4d", checked := Try.checked }
namespace Rows
def none {H : Type} : Left H := { results := [], args := [] }

/-- 'penstocklaw9.EventMakes': WHATEVER THE INPUT: true; the input reads as it did. -/
def eventMakesSpec : ChangeSpec := { name := "eventMakes", fn := fun _ => fun
  | [d1, d2, d3, d4] => { results := [.lit (.bool true)], args := [d1, d2, d3, d4] }
  | _ => none }
def eventMakesRow : OpenClaim := { program := "ytnenabacbhepdaa", sum := "aadf8bc07053d6bb978d6acacc8b27c4f0d779c0d4a6e9582ae7f4cd37d5cc4d", func := "penstock/penstocklaw9.EventMakes", spec := "eventMakes", apart := false }
def EventMakesSaid : Prop := eventMakesRow.holds Try.pinned (OpenSpec.ofChange eventMakesSpec)

/-- ITS FALSE NEIGHBOUR: 'it returns false'. Refute it at one input. -/
def eventMakesWrong : ChangeSpec := { name := "eventMakes", fn := fun _ => fun
  | [d1, d2, d3, d4] => { results := [.lit (.bool false)], args := [d1, d2, d3, d4] }
  | _ => none }
def EventMakesWrongFalsely : Prop := eventMakesRow.holds Try.pinned (OpenSpec.ofChange eventMakesWrong)

/-- 'penstocklaw29.WatchFewer': WHATEVER THE INPUT: true; the input reads as it did. -/
def watchFewerSpec : ChangeSpec := { name := "watchFewer", fn := fun _ => fun
  | [d1, d2, d3] => { results := [.lit (.bool true)], args := [d1, d2, d3] }
  | _ => none }
def watchFewerRow : OpenClaim := { program := "ytnenabacbhepdaa", sum := "aadf8bc07053d6bb978d6acacc8b27c4f0d779c0d4a6e9582ae7f4cd37d5cc4d", func := "penstock/penstocklaw29.WatchFewer", spec := "watchFewer", apart := false }
def WatchFewerSaid : Prop := watchFewerRow.holds Try.pinned (OpenSpec.ofChange watchFewerSpec)

/-- ITS FALSE NEIGHBOUR: 'it returns false'. Refute it at one input. -/
def watchFewerWrong : ChangeSpec := { name := "watchFewer", fn := fun _ => fun
  | [d1, d2, d3] => { results := [.lit (.bool false)], args := [d1, d2, d3] }
  | _ => none }
def WatchFewerWrongFalsely : Prop := watchFewerRow.holds Try.pinned (OpenSpec.ofChange watchFewerWrong)

/-- 'penstocklaw18.HeapTurns': WHATEVER THE INPUT: true; the input reads as it did. -/
def heapTurnsSpec : ChangeSpec := { name := "heapTurns", fn := fun _ => fun
  | [d1, d2, d3, d4] => { results := [.lit (.bool true)], args := [d1, d2, d3, d4] }
  | _ => none }
def heapTurnsRow : OpenClaim := { program := "ytnenabacbhepdaa", sum := "aadf8bc07053d6bb978d6acacc8b27c4f0d779c0d4a6e9582ae7f4cd37d5cc4d", func := "penstock/penstocklaw18.HeapTurns", spec := "heapTurns", apart := false }
def HeapTurnsSaid : Prop := heapTurnsRow.holds Try.pinned (OpenSpec.ofChange heapTurnsSpec)

/-- ITS FALSE NEIGHBOUR: 'it returns false'. Refute it at one input. -/
def heapTurnsWrong : ChangeSpec := { name := "heapTurns", fn := fun _ => fun
  | [d1, d2, d3, d4] => { results := [.lit (.bool false)], args := [d1, d2, d3, d4] }
  | _ => none }
def HeapTurnsWrongFalsely : Prop := heapTurnsRow.holds Try.pinned (OpenSpec.ofChange heapTurnsWrong)

/-- 'penstocklaw18.HeapBelow': WHATEVER THE INPUT: true; the input reads as it did. -/
def heapBelowSpec : ChangeSpec := { name := "heapBelow", fn := fun _ => fun
  | [d1, d2, d3, d4] => { results := [.lit (.bool true)], args := [d1, d2, d3, d4] }
  | _ => none }
def heapBelowRow : OpenClaim := { program := "ytnenabacbhepdaa", sum := "aadf8bc07053d6bb978d6acacc8b27c4f0d779c0d4a6e9582ae7f4cd37d5cc4d", func := "penstock/penstocklaw18.HeapBelow", spec := "heapBelow", apart := false }
def HeapBelowSaid : Prop := heapBelowRow.holds Try.pinned (OpenSpec.ofChange heapBelowSpec)

/-- ITS FALSE NEIGHBOUR: 'it returns false'. Refute it at one input. -/
def heapBelowWrong : ChangeSpec := { name := "heapBelow", fn := fun _ => fun
  | [d1, d2, d3, d4] => { results := [.lit (.bool false)], args := [d1, d2, d3, d4] }
  | _ => none }
def HeapBelowWrongFalsely : Prop := heapBelowRow.holds Try.pinned (OpenSpec.ofChange heapBelowWrong)

/-- 'penstocklaw18.HeapPlaces': WHATEVER THE INPUT: true; the input reads as it did. -/
def heapPlacesSpec : ChangeSpec := { name := "heapPlaces", fn := fun _ => fun
  | [d1, d2, d3] => { results := [.lit (.bool true)], args := [d1, d2, d3] }
  | _ => none }
def heapPlacesRow : OpenClaim := { program := "ytnenabacbhepdaa", sum := "aadf8bc07053d6bb978d6acacc8b27c4f0d779c0d4a6e9582ae7f4cd37d5cc4d", func := "penstock/penstocklaw18.HeapPlaces", spec := "heapPlaces", apart := false }
def HeapPlacesSaid : Prop := heapPlacesRow.holds Try.pinned (OpenSpec.ofChange heapPlacesSpec)

/-- ITS FALSE NEIGHBOUR: 'it returns false'. Refute it at one input. -/
def heapPlacesWrong : ChangeSpec := { name := "heapPlaces", fn := fun _ => fun
  | [d1, d2, d3] => { results := [.lit (.bool false)], args := [d1, d2, d3] }
  | _ => none }
def HeapPlacesWrongFalsely : Prop := heapPlacesRow.holds Try.pinned (OpenSpec.ofChange heapPlacesWrong)

/-- 'penstocklaw29.WatchTorn': WHATEVER THE INPUT: true; the input reads as it did. -/
def watchTornSpec : ChangeSpec := { name := "watchTorn", fn := fun _ => fun
  | [d1, d2, d3] => { results := [.lit (.bool true)], args := [d1, d2, d3] }
  | _ => none }
def watchTornRow : OpenClaim := { program := "ytnenabacbhepdaa", sum := "aadf8bc07053d6bb978d6acacc8b27c4f0d779c0d4a6e9582ae7f4cd37d5cc4d", func := "penstock/penstocklaw29.WatchTorn", spec := "watchTorn", apart := false }
def WatchTornSaid : Prop := watchTornRow.holds Try.pinned (OpenSpec.ofChange watchTornSpec)

/-- ITS FALSE NEIGHBOUR: 'it returns false'. Refute it at one input. -/
def watchTornWrong : ChangeSpec := { name := "watchTorn", fn := fun _ => fun
  | [d1, d2, d3] => { results := [.lit (.bool false)], args := [d1, d2, d3] }
  | _ => none }
def WatchTornWrongFalsely : Prop := watchTornRow.holds Try.pinned (OpenSpec.ofChange watchTornWrong)

/-- 'penstocklaw18.HeapPieces': WHATEVER THE INPUT: true; the input reads as it did. -/
def heapPiecesSpec : ChangeSpec := { name := "heapPieces", fn := fun _ => fun
  | [d1, d2, d3] => { results := [.lit (.bool true)], args := [d1, d2, d3] }
  | _ => none }
def heapPiecesRow : OpenClaim := { program := "ytnenabacbhepdaa", sum := "aadf8bc07053d6bb978d6acacc8b27c4f0d779c0d4a6e9582ae7f4cd37d5cc4d", func := "penstock/penstocklaw18.HeapPieces", spec := "heapPieces", apart := false }
def HeapPiecesSaid : Prop := heapPiecesRow.holds Try.pinned (OpenSpec.ofChange heapPiecesSpec)

/-- ITS FALSE NEIGHBOUR: 'it returns false'. Refute it at one input. -/
def heapPiecesWrong : ChangeSpec := { name := "heapPieces", fn := fun _ => fun
  | [d1, d2, d3] => { results := [.lit (.bool false)], args := [d1, d2, d3] }
  | _ => none }
def HeapPiecesWrongFalsely : Prop := heapPiecesRow.holds Try.pinned (OpenSpec.ofChange heapPiecesWrong)

/-- 'penstocklaw29.WatchMade': WHATEVER THE INPUT: true; the input reads as it did. -/
def watchMadeSpec : ChangeSpec := { name := "watchMade", fn := fun _ => fun
  | [d1, d2, d3, d4] => { results := [.lit (.bool true)], args := [d1, d2, d3, d4] }
  | _ => none }
def watchMadeRow : OpenClaim := { program := "ytnenabacbhepdaa", sum := "aadf8bc07053d6bb978d6acacc8b27c4f0d779c0d4a6e9582ae7f4cd37d5cc4d", func := "penstock/penstocklaw29.WatchMade", spec := "watchMade", unfollowed := true, recurses := true, apart := false }
def WatchMadeSaid : Prop := watchMadeRow.holds Try.pinned (OpenSpec.ofChange watchMadeSpec)

/-- ITS FALSE NEIGHBOUR: 'it returns false'. Refute it at one input. -/
def watchMadeWrong : ChangeSpec := { name := "watchMade", fn := fun _ => fun
  | [d1, d2, d3, d4] => { results := [.lit (.bool false)], args := [d1, d2, d3, d4] }
  | _ => none }
def WatchMadeWrongFalsely : Prop := watchMadeRow.holds Try.pinned (OpenSpec.ofChange watchMadeWrong)

/-- 'penstocklaw29.WatchAsks': WHATEVER THE INPUT: true; the input reads as it did. -/
def watchAsksSpec : ChangeSpec := { name := "watchAsks", fn := fun _ => fun
  | [d1, d2, d3, d4, d5] => { results := [.lit (.bool true)], args := [d1, d2, d3, d4, d5] }
  | _ => none }
def watchAsksRow : OpenClaim := { program := "ytnenabacbhepdaa", sum := "aadf8bc07053d6bb978d6acacc8b27c4f0d779c0d4a6e9582ae7f4cd37d5cc4d", func := "penstock/penstocklaw29.WatchAsks", spec := "watchAsks", unfollowed := true, recurses := true, apart := false }
def WatchAsksSaid : Prop := watchAsksRow.holds Try.pinned (OpenSpec.ofChange watchAsksSpec)

/-- ITS FALSE NEIGHBOUR: 'it returns false'. Refute it at one input. -/
def watchAsksWrong : ChangeSpec := { name := "watchAsks", fn := fun _ => fun
  | [d1, d2, d3, d4, d5] => { results := [.lit (.bool false)], args := [d1, d2, d3, d4, d5] }
  | _ => none }
def WatchAsksWrongFalsely : Prop := watchAsksRow.holds Try.pinned (OpenSpec.ofChange watchAsksWrong)

/- THE SECOND FORM. 'bulk': how many values and letters a reading holds, each counted each time it is reached (what is shared counts as often as it is met; a slice's spare places count too). A statement '..UptoSaid' is the law's where the arguments, and the package variables that the reading takes, are together of bulk at most 1048576: NARROWER than '..Said'. Prove '..Said' where nothing that the law and all that it calls make is longer than what came in: it says more and counts as full. Else prove '..UptoSaid'. A law counts once. -/
mutual
def uptoBulk {H : Type} : DataW H → Nat
  | .lit (.string bytes) => bytes.length + 1
  | .lit _ => 1
  | .nil => 1
  | .ptr d => uptoBulk d + 1
  | .slice elems spare => uptoBulkAll elems + uptoBulkAll spare + 1
  | .agg parts => uptoBulkAll parts + 1
  | .iface _ d => uptoBulk d + 1
  | .map entries => uptoBulkEntries entries + 1
  | .held _ => 1
def uptoBulkAll {H : Type} : List (DataW H) → Nat
  | [] => 0
  | d :: r => uptoBulk d + uptoBulkAll r
def uptoBulkEntries {H : Type} : List (Lit × DataW H) → Nat
  | [] => 0
  | x :: r => uptoBulkEntry x + uptoBulkEntries r
def uptoBulkEntry {H : Type} : Lit × DataW H → Nat
  | (.string bytes, d) => bytes.length + uptoBulk d + 1
  | (_, d) => uptoBulk d + 1
 end
def uptoSmall : (H : Type) → List (DataW H) → Bool := fun _ ds => decide (uptoBulkAll ds ≤ 1048576)
def OpenSpec.upto (s : _root_.Go.ChangeSpec) : _root_.Go.OpenSpec := { _root_.Go.OpenSpec.ofChange s with cond := some uptoSmall }

/-- 'penstocklaw9.EventMakes', WHERE WHAT IT READS IS OF BULK AT MOST 1048576: true; the input reads as it did. -/
def eventMakesUptoRow : OpenClaim := { program := "ytnenabacbhepdaa", sum := "aadf8bc07053d6bb978d6acacc8b27c4f0d779c0d4a6e9582ae7f4cd37d5cc4d", func := "penstock/penstocklaw9.EventMakes", spec := "eventMakes", apart := false, narrowed := true }
def EventMakesUptoSaid : Prop := eventMakesUptoRow.holds Try.pinned (OpenSpec.upto eventMakesSpec)

/-- 'penstocklaw29.WatchFewer', WHERE WHAT IT READS IS OF BULK AT MOST 1048576: true; the input reads as it did. -/
def watchFewerUptoRow : OpenClaim := { program := "ytnenabacbhepdaa", sum := "aadf8bc07053d6bb978d6acacc8b27c4f0d779c0d4a6e9582ae7f4cd37d5cc4d", func := "penstock/penstocklaw29.WatchFewer", spec := "watchFewer", apart := false, narrowed := true }
def WatchFewerUptoSaid : Prop := watchFewerUptoRow.holds Try.pinned (OpenSpec.upto watchFewerSpec)

/-- 'penstocklaw18.HeapTurns', WHERE WHAT IT READS IS OF BULK AT MOST 1048576: true; the input reads as it did. -/
def heapTurnsUptoRow : OpenClaim := { program := "ytnenabacbhepdaa", sum := "aadf8bc07053d6bb978d6acacc8b27c4f0d779c0d4a6e9582ae7f4cd37d5cc4d", func := "penstock/penstocklaw18.HeapTurns", spec := "heapTurns", apart := false, narrowed := true }
def HeapTurnsUptoSaid : Prop := heapTurnsUptoRow.holds Try.pinned (OpenSpec.upto heapTurnsSpec)

/-- 'penstocklaw18.HeapBelow', WHERE WHAT IT READS IS OF BULK AT MOST 1048576: true; the input reads as it did. -/
def heapBelowUptoRow : OpenClaim := { program := "ytnenabacbhepdaa", sum := "aadf8bc07053d6bb978d6acacc8b27c4f0d779c0d4a6e9582ae7f4cd37d5cc4d", func := "penstock/penstocklaw18.HeapBelow", spec := "heapBelow", apart := false, narrowed := true }
def HeapBelowUptoSaid : Prop := heapBelowUptoRow.holds Try.pinned (OpenSpec.upto heapBelowSpec)

/-- 'penstocklaw18.HeapPlaces', WHERE WHAT IT READS IS OF BULK AT MOST 1048576: true; the input reads as it did. -/
def heapPlacesUptoRow : OpenClaim := { program := "ytnenabacbhepdaa", sum := "aadf8bc07053d6bb978d6acacc8b27c4f0d779c0d4a6e9582ae7f4cd37d5cc4d", func := "penstock/penstocklaw18.HeapPlaces", spec := "heapPlaces", apart := false, narrowed := true }
def HeapPlacesUptoSaid : Prop := heapPlacesUptoRow.holds Try.pinned (OpenSpec.upto heapPlacesSpec)

/-- 'penstocklaw29.WatchTorn', WHERE WHAT IT READS IS OF BULK AT MOST 1048576: true; the input reads as it did. -/
def watchTornUptoRow : OpenClaim := { program := "ytnenabacbhepdaa", sum := "aadf8bc07053d6bb978d6acacc8b27c4f0d779c0d4a6e9582ae7f4cd37d5cc4d", func := "penstock/penstocklaw29.WatchTorn", spec := "watchTorn", apart := false, narrowed := true }
def WatchTornUptoSaid : Prop := watchTornUptoRow.holds Try.pinned (OpenSpec.upto watchTornSpec)

/-- 'penstocklaw18.HeapPieces', WHERE WHAT IT READS IS OF BULK AT MOST 1048576: true; the input reads as it did. -/
def heapPiecesUptoRow : OpenClaim := { program := "ytnenabacbhepdaa", sum := "aadf8bc07053d6bb978d6acacc8b27c4f0d779c0d4a6e9582ae7f4cd37d5cc4d", func := "penstock/penstocklaw18.HeapPieces", spec := "heapPieces", apart := false, narrowed := true }
def HeapPiecesUptoSaid : Prop := heapPiecesUptoRow.holds Try.pinned (OpenSpec.upto heapPiecesSpec)

/-- 'penstocklaw29.WatchMade', WHERE WHAT IT READS IS OF BULK AT MOST 1048576: true; the input reads as it did. -/
def watchMadeUptoRow : OpenClaim := { program := "ytnenabacbhepdaa", sum := "aadf8bc07053d6bb978d6acacc8b27c4f0d779c0d4a6e9582ae7f4cd37d5cc4d", func := "penstock/penstocklaw29.WatchMade", spec := "watchMade", unfollowed := true, recurses := true, apart := false, narrowed := true }
def WatchMadeUptoSaid : Prop := watchMadeUptoRow.holds Try.pinned (OpenSpec.upto watchMadeSpec)

/-- 'penstocklaw29.WatchAsks', WHERE WHAT IT READS IS OF BULK AT MOST 1048576: true; the input reads as it did. -/
def watchAsksUptoRow : OpenClaim := { program := "ytnenabacbhepdaa", sum := "aadf8bc07053d6bb978d6acacc8b27c4f0d779c0d4a6e9582ae7f4cd37d5cc4d", func := "penstock/penstocklaw29.WatchAsks", spec := "watchAsks", unfollowed := true, recurses := true, apart := false, narrowed := true }
def WatchAsksUptoSaid : Prop := watchAsksUptoRow.holds Try.pinned (OpenSpec.upto watchAsksSpec)

end Rows
end Go.Proofs.Ytnenabacbhepdaa
