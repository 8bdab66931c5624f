/- Words and small lemmas on memory that all texts of this seat use. No condition. -/
import Derived.Test.YtheogchkelmeeaaDoorChecked
import Derived.WalkKit
import Derived.WalkLawsBesides
import Derived.WalkSpells
import Derived.Lib.Hide
import Derived.Below
import Derived.Deep.LoopGhost
import Derived.Deep.DeepMust
import Derived.BigQuiet
import Derived.Deep.QuietTactic
import Derived.Deep.RegionHeld3
import Derived.Deep.RegionWith
import Derived.Deep.DeepCutAuto
namespace Go.Proofs.YtheogchkelmeeaaDoor
open Go.RowKit

/-- w' is w with more blocks; of those of w none has turned. -/
def G (w w' : World) : Prop := Below w.heap.size w w'
theorem G.refl (w : World) : G w w := Below.refl _ _
theorem G.size {w w' : World} (h : G w w') : w.heap.size ≤ w'.heap.size := Below.size h
theorem G.trans {a b c : World} (h : G a b) (k : G b c) : G a c := Below.trans h (Below.mono k (Below.size h))
theorem G.keep {a b c : World} (k : G b c) (h : G a b) : G a c := h.trans k
theorem G.drew {a w : World} (h : G a w) : G a w.drew := Below.drew h
theorem G.drewN {a w : World} (h : G a w) (n : Nat) : G a (w.drewN n) := ⟨h.os, h.tape, h.output, h.size, h.block⟩
theorem G.alloc {a w : World} (h : G a w) (o : Obj) : G a (w.alloc o) := Below.alloc h h.size o
theorem G.new (w : World) (o : Obj) : G w (w.alloc o) := (G.refl w).alloc o
theorem G.cell {w w' : World} (h : G w w') {b o : Nat} (hb : b < w.heap.size) : w'.cell? ⟨b, o, none⟩ = w.cell? ⟨b, o, none⟩ := Below.cell (p := ⟨b, o, none⟩) h hb
theorem G.frozen {w w' : World} (h : G w w') {b o : Nat} (hb : b < w.heap.size) : w'.frozen? ⟨b, o, none⟩ = w.frozen? ⟨b, o, none⟩ := Below.frozen (p := ⟨b, o, none⟩) h hb
theorem G.set {a w : World} (h : G a w) {p : Addr} (hp : a.heap.size ≤ p.block) (u : Value) : G a (w.setCell p u) := Below.setCell h hp u
theorem G.grown {a w w' : World} {row : Option Nat} (h : G a w) (hg : w.grownBy w' row) (hr : ∀ k, row = some k → a.heap.size ≤ k) : G a w' := Below.grown h hg h.size hr
theorem G.below {w w' : World} (h : G w w') : Below w.heap.size w w' := h
theorem G.of {w w' : World} (h : Below w.heap.size w w') : G w w' := h

/-- A slice value whose address is A reads as the list xs, each element as the cells that f gives, sz of them; it lies below block B. -/
def Sl {α : Type} (f : α → List Value) (sz : Nat) (w : World) (B : Nat) (A : Option Addr) (xs : List α) : Prop :=
  xs ≠ [] → ∃ b o, A = some ⟨b, o, none⟩ ∧ b < B ∧ ∀ k x, xs[k]? = some x → ∀ j u, (f x)[j]? = some u → w.cell? ⟨b, o + k * sz + j, none⟩ = some u

section
variable {α : Type} {f : α → List Value} {sz : Nat} {w w' : World} {B B' : Nat} {A : Option Addr} {xs : List α}
theorem Sl.nil : Sl f sz w B A [] := fun h => absurd rfl h
theorem Sl.keep (h : Sl f sz w B A xs) (hk : ∀ b o, b < B → w'.cell? ⟨b, o, none⟩ = w.cell? ⟨b, o, none⟩) : Sl f sz w' B A xs := fun hn => by
  obtain ⟨b, o, e, hb, hc⟩ := h hn
  exact ⟨b, o, e, hb, fun k x hx j u hu => (hk _ _ hb).trans (hc k x hx j u hu)⟩
theorem Sl.g (h : Sl f sz w B A xs) (hB : B ≤ w.heap.size) (hg : G w w') : Sl f sz w' B A xs := h.keep fun _ _ hp => hg.cell (Nat.lt_of_lt_of_le hp hB)
theorem Sl.more (h : Sl f sz w B A xs) (hB : B ≤ B') : Sl f sz w B' A xs := fun hn => by
  obtain ⟨b, o, e, hb, hc⟩ := h hn
  exact ⟨b, o, e, by omega, hc⟩
/-- The place of an element that is there. -/
theorem Sl.get {k : Nat} {x : α} (h : Sl f sz w B A xs) (hx : xs[k]? = some x) :
    ∃ b o, A = some ⟨b, o, none⟩ ∧ b < B ∧ ∀ j u, (f x)[j]? = some u → w.cell? ⟨b, o + k * sz + j, none⟩ = some u := by
  obtain ⟨b, o, e, hb, hc⟩ := h (by rintro rfl; simp at hx)
  exact ⟨b, o, e, hb, hc k x hx⟩
/-- Elements of one cell. -/
theorem Sl.get1 {g : α → Value} {k : Nat} {x : α} (h : Sl (fun x => [g x]) 1 w B A xs) (hx : xs[k]? = some x) :
    ∃ b o, A = some ⟨b, o, none⟩ ∧ b < B ∧ w.cell? ⟨b, o + k, none⟩ = some (g x) := by
  obtain ⟨b, o, e, hb, hc⟩ := h.get hx
  exact ⟨b, o, e, hb, by simpa using hc 0 _ rfl⟩
end
theorem flat_get {α : Type} {f : α → List Value} {sz : Nat} (hf : ∀ x, (f x).length = sz) : ∀ (xs : List α) (k : Nat) (x : α), xs[k]? = some x → ∀ j u, (f x)[j]? = some u → (xs.flatMap f)[k * sz + j]? = some u := by
  intro xs
  induction xs with
  | nil => intro k x h; simp at h
  | cons a xs ih =>
    intro k x h j u hu
    have hl := hf a
    cases k with
    | zero =>
      simp at h; subst h
      have hj : j < sz := by rw [← hl]; exact (List.getElem?_eq_some_iff.1 hu).1
      rw [List.flatMap_cons, List.getElem?_append_left (by omega)]
      simpa using hu
    | succ k =>
      rw [List.flatMap_cons, List.getElem?_append_right (by rw [Nat.succ_mul]; omega), hl]
      have := ih k x (by simpa using h) j u hu
      rw [← this, Nat.succ_mul]
      congr 1
      omega
theorem blk_cell {w : World} {g : Nat} {cs : Array Value} {t : TypeId} {fz : Nat × Nat} (h : w.heap[g]? = some (.cells cs t fz)) (i : Nat) : w.cell? ⟨g, i, none⟩ = cs[i]? := by simp [World.cell?, h]
theorem blk_lt {w : World} {g : Nat} {o : Obj} (h : w.heap[g]? = some o) : g < w.heap.size := by
  rcases Nat.lt_or_ge g w.heap.size with h1 | h1
  · exact h1
  · rw [Array.getElem?_eq_none h1] at h; cases h
theorem blk_new (w : World) (cs : Array Value) (t : TypeId) : (w.alloc (.cells cs t)).heap[w.heap.size]? = some (.cells cs t (0, 0)) := heap_alloc_new w _
theorem blk_new' (w : World) (cs : Array Value) (t : TypeId) (b : Nat) (hb : b = w.heap.size) : (w.alloc (.cells cs t)).heap[b]? = some (.cells cs t (0, 0)) := by rw [hb]; exact heap_alloc_new w _
theorem G.blk {w w' : World} (h : G w w') {g : Nat} {o : Obj} (hb : w.heap[g]? = some o) : w'.heap[g]? = some o := (h.block g (blk_lt hb)).trans hb
/-- A block that is known whole reads as the list that it holds. -/
theorem Sl.of_blk {α : Type} {f : α → List Value} {sz : Nat} (hf : ∀ x, (f x).length = sz) {w : World} {b B : Nat} {cs : Array Value} {t : TypeId} {fz : Nat × Nat} (xs : List α)
    (h : w.heap[b]? = some (.cells cs t fz)) (hcs : cs.toList = xs.flatMap f) (hB : b < B) : Sl f sz w B (some ⟨b, 0, none⟩) xs := fun _ =>
  ⟨b, 0, rfl, hB, fun k x hx j u hu => by
    rw [Nat.zero_add, blk_cell h, ← Array.getElem?_toList, hcs]
    exact flat_get hf xs k x hx j u hu⟩
def intC (x : Int) : List Value := [.int .i64 x]
def strC (s : ByteArray) : List Value := [.string s]
theorem Sl.int {w : World} {B : Nat} {A : Option Addr} {xs : List Int} {k : Nat} {x : Int} (h : Sl intC 1 w B A xs) (hx : xs[k]? = some x) :
    ∃ b o, A = some ⟨b, o, none⟩ ∧ b < B ∧ w.cell? ⟨b, o + k, none⟩ = some (.int .i64 x) := Sl.get1 (g := Value.int .i64) h hx
theorem Sl.str {w : World} {B : Nat} {A : Option Addr} {xs : List ByteArray} {k : Nat} {x : ByteArray} (h : Sl strC 1 w B A xs) (hx : xs[k]? = some x) :
    ∃ b o, A = some ⟨b, o, none⟩ ∧ b < B ∧ w.cell? ⟨b, o + k, none⟩ = some (.string x) := Sl.get1 (g := Value.string) h hx

/-- A Put as it lies: its Data's address and capacity beside what they hold. -/
structure PutM where
  stream : ByteArray
  expect : Int
  A : Option Addr
  c : Nat
  data : List ByteArray
def PutM.cells (p : PutM) : List Value := [.string p.stream, .int .i64 p.expect, .slice p.A p.data.length p.c]
theorem intC_len (x : Int) : (intC x).length = 1 := rfl
theorem strC_len (x : ByteArray) : (strC x).length = 1 := rfl
theorem PutM.cells_len (p : PutM) : p.cells.length = 3 := rfl
/-- The Puts of a batch. -/
def PutsIn (w : World) (B : Nat) (A : Option Addr) (ps : List PutM) : Prop :=
  Sl PutM.cells 3 w B A ps ∧ ∀ p ∈ ps, Sl strC 1 w B p.A p.data
theorem PutsIn.g {w w' : World} {B : Nat} {A : Option Addr} {ps : List PutM} (h : PutsIn w B A ps) (hB : B ≤ w.heap.size) (hg : G w w') : PutsIn w' B A ps :=
  ⟨h.1.g hB hg, fun p hp => (h.2 p hp).g hB hg⟩

/-- A list's elements, each bounded. -/
def lenOk (n : Nat) : Prop := n ≤ 9223372036854775807
/-- What the answer of an Ending is. -/
theorem ret_int {k : IntKind} {a b : Int} (h : a = b) : Ending.returned (.int k a) = .returned (.int k b) := by rw [h]
theorem ret_bool {a b : Bool} (h : a = b) : Ending.returned (.bool a) = .returned (.bool b) := by rw [h]

/-- Go's Sum of lengths: held at 2^40. -/
def sumTo (n : Int) : List Int → Int
  | [] => n
  | m :: l => if n + m ≤ 1099511627776 then sumTo (n + m) l else 1099511627776
end Go.Proofs.YtheogchkelmeeaaDoor
