/- A row of bytes in a block of the call's own. No condition. -/
import Derived.Test.YtilfgafdkiaaaaaDoorStr
namespace Go.Proofs.YtilfgafdkiaaaaaDoor
open Go.RowKit

/-- Block g begins with these bytes; none of them is frozen. -/
def BytesAt (w : World) (g : Nat) (l : List UInt8) : Prop :=
  ∃ (cur : Array Value) (fz : Nat × Nat), w.heap[g]? = some (.cells cur 5 fz) ∧ l.length ≤ cur.size ∧ (∀ (i : Nat) (b : UInt8), l[i]? = some b → cur[i]? = some (.int .u8 b.toNat)) ∧ ∀ i, i < l.length → w.frozen? ⟨g, i, none⟩ = false
theorem BytesAt.lt {w : World} {g : Nat} {l : List UInt8} (h : BytesAt w g l) : g < w.heap.size := by obtain ⟨_, _, h, _⟩ := h; exact blk_lt h
theorem BytesAt.cell {w : World} {g : Nat} {l : List UInt8} {i : Nat} {b : UInt8} (h : BytesAt w g l) (hb : l[i]? = some b) : w.cell? ⟨g, i, none⟩ = some (.int .u8 b.toNat) := by
  obtain ⟨cur, fz, h1, _, h2, _⟩ := h
  rw [blk_cell h1]
  exact h2 i b hb
theorem BytesAt.free {w : World} {g : Nat} {l : List UInt8} {i : Nat} (h : BytesAt w g l) (hi : i < l.length) : w.frozen? ⟨g, i, none⟩ = false := by
  obtain ⟨_, _, _, _, _, h⟩ := h
  exact h i hi
theorem BytesAt.g {w w' : World} {g : Nat} {l : List UInt8} (h : BytesAt w g l) (hg : G w w') : BytesAt w' g l := by
  have hlt := h.lt
  obtain ⟨cur, fz, h1, h2, h3, h4⟩ := h
  exact ⟨cur, fz, hg.blk h1, h2, h3, fun i hi => (hg.frozen hlt).trans (h4 i hi)⟩
theorem BytesAt.set {w : World} {g : Nat} {l : List UInt8} (h : BytesAt w g l) (i : Nat) (b : UInt8) : BytesAt (w.setCell ⟨g, i, none⟩ (.int .u8 b.toNat)) g (l.set i b) := by
  obtain ⟨cur, fz, h1, h2, h3, h4⟩ := h
  have e : (w.setCell ⟨g, i, none⟩ (.int .u8 b.toNat)).heap[g]? = some (.cells (cur.setIfInBounds i (.int .u8 b.toNat)) 5 fz) := by
    rw [setCell_eq_setRow w g i cur 5 fz _ h1]
    exact setRow_heap w g cur _ 5 _ h1
  refine ⟨_, fz, e, by simpa using h2, fun j c hj => ?_, fun j hj => ?_⟩
  · rw [List.getElem?_set] at hj
    by_cases hij : i = j
    · subst hij
      rw [if_pos rfl] at hj
      split at hj
      · cases hj
        rw [Array.getElem?_setIfInBounds_self_of_lt (by omega)]
      · cases hj
    · rw [if_neg hij] at hj
      rw [Array.getElem?_setIfInBounds_ne hij]
      exact h3 j c hj
  · have h5 := h4 j (by simpa using hj)
    simp only [World.frozen?, h1] at h5
    simp only [World.frozen?, e]
    exact h5
theorem BytesAt.sl {w : World} {g : Nat} {l : List UInt8} (h : BytesAt w g l) : Sl byteC 1 w w.heap.size (some ⟨g, 0, none⟩) l := fun _ =>
  ⟨g, 0, rfl, h.lt, fun k x hx j u hu => by
    rcases j with _ | j
    · simp [byteC] at hu
      subst hu
      have := h.cell hx
      simpa using this
    · simp [byteC] at hu⟩
theorem bytes_of_string (w : World) (s : ByteArray) (hs : s.size ≤ 9223372036854775807) : ∃ c w', (convert 9 26 (.string s)).run Tryd.prog w = .ok (.slice (some ⟨w.heap.size, 0, none⟩) s.size c) w' ∧ s.size ≤ c ∧ c ≤ 9223372036854775807 ∧ BytesAt w' w.heap.size s.data.toList ∧ G w w' := by
  have hm : s.size ≤ maxLen := by simpa [maxLen] using hs
  have hcap := grownCap_ge w s.size 0 5
  have hcap2 := grownCap_le_maxLen w s.size 0 5 hm
  refine ⟨_, _, run_bytes_of_string w _ _ _ s Tryd.underlying9 Tryd.underlying26 Tryd.underlying5, hcap, by simpa [maxLen] using hcap2, ?_, (G.refl w).drew.alloc _⟩
  have hbl : ∀ (cs : Array Value) (fz : Nat × Nat), (w.drew.alloc (.cells cs 5 fz)).heap[w.heap.size]? = some (.cells cs 5 fz) := fun cs fz => heap_alloc_new w.drew _
  have hsz : (bytesRow s (grownCap w s.size 0 5)).size = grownCap w s.size 0 5 := by
    have : s.data.size = s.size := rfl
    simp [bytesRow]
    omega
  have hsl : s.data.toList.length = s.size := by simp
  refine ⟨_, _, hbl _ _, by rw [hsz, hsl]; exact hcap, fun i b hb => ?_, fun i hi => ?_⟩
  · obtain ⟨hi, rfl⟩ := List.getElem?_eq_some_iff.1 hb
    exact bytesRow_at s _ i (by simpa using hi)
  · simp only [World.frozen?, hbl, hsz]
    rw [hsl] at hi
    simp
    omega
end Go.Proofs.YtilfgafdkiaaaaaDoor
