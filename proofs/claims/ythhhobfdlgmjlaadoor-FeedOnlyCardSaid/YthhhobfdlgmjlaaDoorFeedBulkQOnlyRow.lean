/- What a bulk of at most so much says of a list of events. Plain mathematics. No condition. -/
import Derived.Test.YthhhobfdlgmjlaaDoorM35OnlyRow
namespace Go.Proofs.YthhhobfdlgmjlaaDoor
open Go.RowKit

theorem sumTo_ge2 (n a b : Int) (h : sumTo n [a, b] ≤ 1099511627775) : sumTo n [a, b] = n + a + b := by
  simp only [sumTo] at h ⊢
  split at h
  · rename_i h1
    rw [if_pos h1]
    split at h
    · rename_i h2
      rw [if_pos h2]
    · omega
  · omega
theorem evBulkTo_ge (top : Int) (ht : top ≤ 1099511627775) : ∀ (l : List Ev) (n : Int), 0 ≤ n → evBulkTo top n l ≤ top → n ≤ evBulkTo top n l ∧ ∀ e ∈ l, (e.stream.size : Int) ≤ evBulkTo top n l := by
  intro l
  induction l with
  | nil => intro n _ _; exact ⟨Int.le_refl _, by simp⟩
  | cons e l ih =>
    intro n h0 h
    simp only [evBulkTo] at h ⊢
    split at h
    · rename_i h1
      rw [if_pos h1]
      have hp : 0 ≤ sumTo n [(e.stream.size : Int), (e.data.size : Int)] := (sumTo_le2 n e.stream.size e.data.size h0 (by omega) (by omega) (by omega)).1
      obtain ⟨h2, h3⟩ := ih _ hp h
      have h4 := sumTo_ge2 n e.stream.size e.data.size (by omega)
      refine ⟨by omega, fun x hx => ?_⟩
      rcases List.mem_cons.1 hx with rfl | hx
      · omega
      · exact h3 x hx
    · omega
theorem sumTo_ge1 (n a : Int) (h : sumTo n [a] ≤ 1099511627775) : sumTo n [a] = n + a := by
  simp only [sumTo] at h ⊢
  split at h
  · rename_i h1
    rw [if_pos h1]
  · omega
theorem evBulk_ge {top : Int} (ht : top ≤ 1099511627775) {es : List Ev} (h : evBulk top es ≤ top) : (es.length : Int) ≤ top ∧ ∀ e ∈ es, (e.stream.size : Int) ≤ top := by
  have h1 := sumTo_le1 0 es.length (by omega) (by omega) (by omega)
  obtain ⟨h2, h3⟩ := evBulkTo_ge top ht es _ h1.1 h
  have h4 := sumTo_ge1 0 es.length (by unfold evBulk at h; omega)
  unfold evBulk at h
  exact ⟨by omega, fun e he => by have := h3 e he; omega⟩
end Go.Proofs.YthhhobfdlgmjlaaDoor
