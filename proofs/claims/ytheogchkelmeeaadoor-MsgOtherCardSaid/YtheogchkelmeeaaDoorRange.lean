/- The range over a text: its iterator, wherever it lies. No condition. -/
import Derived.Test.YtheogchkelmeeaaDoorBut
import Derived.Test.YtheogchkelmeeaaDoorChunk
import Derived.Laws.RangeAny
namespace Go.Proofs.YtheogchkelmeeaaDoor
open Go.RowKit

/-- Block b is the iterator of a range over s, at the k-th piece. -/
def IterAt (w : World) (b : Nat) (s : ByteArray) (k : Nat) : Prop := w.heap[b]? = some (.stringIter s (off s.data.toList k))
theorem IterAt.start (w : World) (s : ByteArray) : IterAt (w.iter s 0) w.heap.size s 0 := World.iter_heap w s 0
theorem IterAt.g {w w' : World} {b : Nat} {s : ByteArray} {k : Nat} (h : IterAt w b s k) (hg : G w w') : IterAt w' b s k := hg.blk h
theorem IterAt.but {S : Nat → Prop} {w w' : World} {b : Nat} {s : ByteArray} {k : Nat} (h : IterAt w b s k) (hb : But S w w') (hS : ¬ S b) : IterAt w' b s k := hb.blk h hS
theorem IterAt.pos {w : World} {b : Nat} {s : ByteArray} {k : Nat} (h : IterAt w b s k) : w.iterPos b = off s.data.toList k := by
  have h' : w.heap[b]? = some (.stringIter s (off s.data.toList k)) := h
  simp [World.iterPos, h']
theorem off_less {s : ByteArray} {k : Nat} {c : Ck} (hc : (cks s.data.toList)[k]? = some c) : s.size - off s.data.toList (k + 1) < s.size - off s.data.toList k := by
  have h1 := (decode_off hc).2.2
  have h2 := off_succ hc
  have h3 := (cks_ok _ c (List.mem_of_getElem? hc)).len
  omega
theorem IterAt.lt {w : World} {b : Nat} {s : ByteArray} {k : Nat} (h : IterAt w b s k) : b < w.heap.size := blk_lt h
theorem G.iter (w : World) (s : ByteArray) (p : Nat) : G w (w.iter s p) := G.new w _
section
variable {P : Program}
theorem run_next_piece {w : World} {b : Nat} {s : ByteArray} {k : Nat} {c : Ck} (h : IterAt w b s k) (hc : (cks s.data.toList)[k]? = some c) :
    ∃ w', (∀ ty, (Instr.next (.pointer (some ⟨b, 0, none⟩)) true ty).run P w = .ok (.tuple #[.bool true, .int .i64 (off s.data.toList k), .int .i32 c.r]) w') ∧ IterAt w' b s (k + 1) ∧ But (fun k => k = b) w w' ∧ w'.heap.size = w.heap.size := by
  obtain ⟨h1, h2, h3⟩ := decode_off hc
  have hlt := h.lt
  refine ⟨{ w with heap := w.heap.setIfInBounds b (.stringIter s (off s.data.toList (k + 1))) }, ?_, ?_, ⟨rfl, rfl, rfl, by simp, fun i hi hS => ?_⟩, by simp⟩
  · intro ty
    have h' : w.heap[b]? = some (.stringIter s (off s.data.toList k)) := h
    simp only [Instr.next, getObj, setObj, Sem.run_bind, Sem.run, h', Result.andThen, h3, if_true]
    rw [← h2, ← h1]
    simp [goInt]
  · show ({ w with heap := w.heap.setIfInBounds b (.stringIter s (off s.data.toList (k + 1))) } : World).heap[b]? = _
    simp [hlt]
  · show (w.heap.setIfInBounds b _)[i]? = _
    rw [Array.getElem?_setIfInBounds_ne (by intro e; exact hS e.symm)]
theorem run_next_over {w : World} {b : Nat} {s : ByteArray} {k : Nat} (ty : TypeId) (h : IterAt w b s k) (hc : (cks s.data.toList).length ≤ k) :
    (Instr.next (.pointer (some ⟨b, 0, none⟩)) true ty).run P w = .ok (.tuple #[.bool false]) w := by
  have h' : w.heap[b]? = some (.stringIter s (off s.data.toList k)) := h
  have h2 : ¬ off s.data.toList k < s.size := by
    intro e
    have := off_lt.1 (show off s.data.toList k < s.data.toList.length by simpa using e)
    omega
  simp [Instr.next, getObj, Sem.run, h', h2]
variable {ops : Array Oper} {rest : List Oper} {o : Oper} {a : Act} {Q : Exit → Act → World → Prop}
/-- The next piece of a range. -/
theorem wpList_next (w : World) (hg : o.guard = none) (x : Operand) (hop : o.op = .next x true) (b : Nat) (s : ByteArray) (k : Nat) (c : Ck) (hx : a.eval x = .pointer (some ⟨b, 0, none⟩)) (h : IterAt w b s k) (hc : (cks s.data.toList)[k]? = some c)
    (hK : ∀ w', IterAt w' b s (k + 1) → But (fun k => k = b) w w' → w'.heap.size = w.heap.size → wpList P ops Q rest (a.put o.dst (.tuple #[.bool true, .int .i64 (off s.data.toList k), .int .i32 c.r])) w') : wpList P ops Q (o :: rest) a w := by
  refine wpList_plain hg fun K' hK' => ?_
  obtain ⟨w', hrun, r1, r2, r3⟩ := run_next_piece (P := P) h hc
  unfold Oper.wp
  simp [execOp, hop, hx, hrun o.type, Result.andThen]
  exact hK' _ _ (hK w' r1 r2 r3)
theorem wpList_next_end (w : World) (hg : o.guard = none) (x : Operand) (hop : o.op = .next x true) (b : Nat) (s : ByteArray) (k : Nat) (hx : a.eval x = .pointer (some ⟨b, 0, none⟩)) (h : IterAt w b s k) (hc : (cks s.data.toList).length ≤ k)
    (hK : wpList P ops Q rest (a.put o.dst (.tuple #[.bool false])) w) : wpList P ops Q (o :: rest) a w := by
  refine wpList_plain hg fun K' hK' => ?_
  have hrun := run_next_over (P := P) o.type h hc
  unfold Oper.wp
  simp [execOp, hop, hx, hrun, Result.andThen]
  exact hK' _ _ hK
end
theorem piece_at {l : List UInt8} {k : Nat} (h : k < (cks l).length) : ∃ c, (cks l)[k]? = some c := ⟨_, List.getElem?_eq_getElem h⟩
theorem G.next {W w w' : World} {b : Nat} (h : G W w) (hb : But (fun k => k = b) w w') (hw : W.heap.size ≤ b) : G W w' := Below.trans h (hb.below h.size fun k _ e => by omega)
end Go.Proofs.YtheogchkelmeeaaDoor
