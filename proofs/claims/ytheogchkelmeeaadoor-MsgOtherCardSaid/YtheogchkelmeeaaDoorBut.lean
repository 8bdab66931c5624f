/- A world that is another one but for some blocks. No condition. -/
import Derived.Test.YtheogchkelmeeaaDoorBase
namespace Go.Proofs.YtheogchkelmeeaaDoor
open Go.RowKit

/-- w' is w with more blocks, and but for the blocks that S names. -/
structure But (S : Nat → Prop) (w w' : World) : Prop where
  os : w'.os = w.os
  tape : w'.tape = w.tape
  output : w'.output = w.output
  size : w.heap.size ≤ w'.heap.size
  block : ∀ k, k < w.heap.size → ¬ S k → w'.heap[k]? = w.heap[k]?
theorem But.refl (S : Nat → Prop) (w : World) : But S w w := ⟨rfl, rfl, rfl, Nat.le_refl _, fun _ _ _ => rfl⟩
theorem But.of_g {S : Nat → Prop} {w w' : World} (h : G w w') : But S w w' := ⟨h.os, h.tape, h.output, h.size, fun k hk _ => h.block k hk⟩
theorem But.of_grown {S : Nat → Prop} {w w' : World} {row : Option Nat} (h : w.grownBy w' row) (hr : ∀ k, row = some k → S k) : But S w w' :=
  ⟨h.os, h.tape, h.output, h.size, fun k hk hS => h.block k hk fun e => hS (hr k e.symm)⟩
theorem But.trans {S : Nat → Prop} {a b c : World} (h : But S a b) (k : But S b c) : But S a c :=
  ⟨k.os.trans h.os, k.tape.trans h.tape, k.output.trans h.output, Nat.le_trans h.size k.size, fun i hi hS => (k.block i (Nat.lt_of_lt_of_le hi h.size) hS).trans (h.block i hi hS)⟩
theorem But.g {S : Nat → Prop} {a b c : World} (h : But S a b) (k : G b c) : But S a c := h.trans (.of_g k)
theorem But.mono {S T : Nat → Prop} {a b : World} (h : But S a b) (hS : ∀ k, k < a.heap.size → S k → T k) : But T a b := ⟨h.os, h.tape, h.output, h.size, fun k hk hT => h.block k hk fun e => hT (hS k hk e)⟩
theorem But.drew {S : Nat → Prop} {a b : World} (h : But S a b) : But S a b.drew := ⟨h.os, h.tape, h.output, h.size, h.block⟩
/-- Blocks of a that S names lie from a base on: nothing below it has turned. -/
theorem But.below {S : Nat → Prop} {a b : World} (h : But S a b) {B : Nat} (hB : B ≤ a.heap.size) (hS : ∀ k, k < a.heap.size → S k → B ≤ k) : Below B a b :=
  ⟨h.os, h.tape, h.output, h.size, fun k hk => h.block k (by omega) fun e => by have := hS k (by omega) e; omega⟩
theorem But.blk {S : Nat → Prop} {a b : World} (h : But S a b) {k : Nat} {o : Obj} (hk : a.heap[k]? = some o) (hS : ¬ S k) : b.heap[k]? = some o := (h.block k (blk_lt hk) hS).trans hk
theorem But.cell {S : Nat → Prop} {a b : World} (h : But S a b) {k o : Nat} (hk : k < a.heap.size) (hS : ¬ S k) : b.cell? ⟨k, o, none⟩ = a.cell? ⟨k, o, none⟩ := World.cell?_of_block (w := a) (h.block k hk hS)
theorem But.set {S : Nat → Prop} {a b : World} (h : But S a b) {p : Addr} (hp : a.heap.size ≤ p.block ∨ S p.block) (u : Value) : But S a (b.setCell p u) := by
  have k := (Below.refl 0 b).setCell (p := p) (Nat.zero_le _) u
  refine ⟨k.os.trans h.os, k.tape.trans h.tape, k.output.trans h.output, Nat.le_trans h.size k.size, fun i hi hS => ?_⟩
  refine (Below.heap_setCell _ _ _ _ ?_).trans (h.block i hi hS)
  rintro rfl
  rcases hp with hp | hp
  · omega
  · exact hS hp

/-- Behind w some more blocks turn, of which each is new since a, or one that S names. -/
theorem But.over {S : Nat → Prop} {a b c : World} {g : Nat} (h : But S a b) (k : But (fun k => k = g) b c) (hS : ∀ k, k = g → (a.heap.size ≤ k ∨ S k)) : But S a c :=
  ⟨k.os.trans h.os, k.tape.trans h.tape, k.output.trans h.output, Nat.le_trans h.size k.size, fun i hi hn => (k.block i (Nat.lt_of_lt_of_le hi h.size) (fun e => by
    rcases hS i e with h1 | h1
    · omega
    · exact hn h1)).trans (h.block i hi hn)⟩

end Go.Proofs.YtheogchkelmeeaaDoor
