/- watch.One: the longest feed, and whether all are first parts of it. Condition: lengths at most 2^40. -/
import Derived.Test.YthhhobfdlgmjlaaDoorM5WholeRow
import Derived.Test.YthhhobfdlgmjlaaDoorM20WholeRow
namespace Go.Proofs.YthhhobfdlgmjlaaDoor
open Go.RowKit

/-- A list of events as it lies: its address and capacity beside what it holds. -/
structure LogM where
  A : Option Addr
  c : Nat
  es : List Ev
def LogM.cells (l : LogM) : List Value := [.slice l.A l.es.length l.c]
theorem LogM.cells_len (l : LogM) : l.cells.length = 1 := rfl
def LogM.ok (w : World) (B : Nat) (l : LogM) : Prop := Sl Ev.cells 7 w B l.A l.es ∧ l.es.length ≤ l.c ∧ l.c ≤ 9223372036854775807
/-- A list of lists of events. -/
def LogsIn (w : World) (B : Nat) (A : Option Addr) (ls : List LogM) : Prop := Sl LogM.cells 1 w B A ls ∧ ∀ l ∈ ls, l.ok w B
theorem LogM.ok.g {w w' : World} {B : Nat} {l : LogM} (h : l.ok w B) (hB : B ≤ w.heap.size) (hg : G w w') : l.ok w' B := ⟨h.1.g hB hg, h.2⟩
theorem LogsIn.g {w w' : World} {B : Nat} {A : Option Addr} {ls : List LogM} (h : LogsIn w B A ls) (hB : B ≤ w.heap.size) (hg : G w w') : LogsIn w' B A ls :=
  ⟨h.1.g hB hg, fun l hl => (h.2 l hl).g hB hg⟩
theorem LogsIn.at_ {w : World} {B : Nat} {A : Option Addr} {ls : List LogM} {k : Nat} {l : LogM} (h : LogsIn w B A ls) (hB : B ≤ w.heap.size) (hl : ls[k]? = some l) :
    ∃ b o, A = some ⟨b, o, none⟩ ∧ b < w.heap.size ∧ (∀ w', G w w' → w'.cell? ⟨b, o + k, none⟩ = some (.slice l.A l.es.length l.c)) ∧ ∀ w', G w w' → l.ok w' B := by
  obtain ⟨b, o, e, hb, hc⟩ := Sl.get1 (g := fun l : LogM => Value.slice l.A l.es.length l.c) h.1 hl
  exact ⟨b, o, e, by omega, fun w' hg => (hg.cell (by omega)).trans hc, fun w' hg => (h.2 l (List.mem_of_getElem? hl)).g hB hg⟩

def longer (a b : LogM) : LogM := if a.es.length < b.es.length then b else a
def longOf (ls : List LogM) : LogM := ls.foldl longer ⟨none, 0, []⟩
/-- Are all first parts of one? -/
def allPre (ls : List LogM) (x : List Ev) : Bool := ls.all fun l => prefB l.es x
theorem take_snoc {α : Type} {l : List α} {k : Nat} {x : α} (h : l[k]? = some x) : l.take (k + 1) = l.take k ++ [x] := by
  rw [List.take_add_one, h]; rfl
theorem longOf_mem (ls : List LogM) : longOf ls = ⟨none, 0, []⟩ ∨ longOf ls ∈ ls := by
  unfold longOf
  suffices h : ∀ a, ls.foldl longer a = a ∨ ls.foldl longer a ∈ ls from h _
  induction ls with
  | nil => intro a; exact .inl rfl
  | cons x l ih =>
    intro a
    rw [List.foldl_cons]
    rcases ih (longer a x) with h | h
    · rw [h]
      unfold longer
      split
      · exact .inr (by simp)
      · exact .inl rfl
    · exact .inr (by simp [h])
/-- A call answers a list of events of its own, and a bool. -/
def RetEvsB (w : World) (es : List Ev) (b : Bool) (e : Ending) (w' : World) : Prop := ∃ v, e = .returned (.tuple #[v, .bool b]) ∧ Own w' w.heap.size v es ∧ G w w'

end Go.Proofs.YthhhobfdlgmjlaaDoor
