/- What a bulk of at most so much says of a batch: how many events. Plain mathematics. No condition. -/
import Derived.Test.YtgoodlbkjciloaaMake
namespace Go.Proofs.Ytgoodlbkjciloaa
open Go.RowKit

theorem sumTo_ge (n : Int) : ∀ l : List Int, (∀ m ∈ l, 0 ≤ m) → sumTo n l ≤ 1099511627775 → n ≤ 1099511627776 → sumTo n l = n + l.sum := by
  intro l
  induction l generalizing n with
  | nil => intro _ _ _; simp [sumTo]
  | cons m l ih =>
    intro h h1 h2
    simp only [sumTo] at h1 ⊢
    split at h1
    · rename_i h3
      rw [if_pos h3, ih (n + m) (fun k hk => h k (by simp [hk])) h1 h3]
      simp; omega
    · omega
/-- What bulk at most top says of a list's texts. -/
theorem upTo_ge (top n : Int) (ht : top ≤ 1099511627775) : ∀ l : List Int, (∀ m ∈ l, 0 ≤ m) → upTo top n l ≤ top → n ≤ upTo top n l := by
  intro l
  induction l generalizing n with
  | nil => intro _ _; exact Int.le_refl _
  | cons m l ih =>
    intro h h1
    simp only [upTo] at h1 ⊢
    split
    · rename_i h3
      rw [if_pos h3] at h1
      have h4 := ih (sumTo n [m]) (fun k hk => h k (by simp [hk])) h1
      have h5 : 0 ≤ m := h m (by simp)
      have h6 := sumTo_one n m
      split at h6 <;> omega
    · rename_i h3
      rw [if_neg h3] at h1
      exact Int.le_refl _
theorem total_ge (top : Int) (ht : top ≤ 1099511627775) (ss : List ByteArray) (h : totalOf top ss ≤ top) : (ss.length : Int) ≤ totalOf top ss := by
  have h1 := upTo_ge top (sumTo 0 [(ss.length : Int)]) ht _ (fun m hm => by simp at hm; obtain ⟨s, _, rfl⟩ := hm; omega) h
  have h2 := sumTo_one 0 (ss.length : Int)
  unfold totalOf at h ⊢
  split at h2 <;> omega
theorem bulk_ge (top : Int) (ht : top ≤ 1099511627775) : ∀ (ps : List PutM) (n : Int), 0 ≤ n → bulkTo top n ps ≤ top → n + evCount ps ≤ bulkTo top n ps := by
  intro ps
  induction ps with
  | nil => intro n _ _; simp [evCount, bulkTo]
  | cons p l ih =>
    intro n h0 h
    simp only [bulkTo] at h ⊢
    obtain ⟨t0, t1⟩ := totalOf_le top p.data
    split
    · rename_i h3
      rw [if_pos h3] at h
      have hs := sumTo_le2 n p.stream.size (totalOf top p.data) h0 (by omega) (by omega) t0
      have h4 := ih _ hs.1 h
      have h5 := sumTo_ge n [(p.stream.size : Int), totalOf top p.data] (fun k hk => by simp at hk; omega) (by omega) (by omega)
      have h6 := total_ge top ht p.data (by simp at h5; omega)
      have h7 : evCount (p :: l) = p.data.length + evCount l := by simp [evCount]
      simp at h5
      omega
    · rename_i h3
      rw [if_neg h3] at h
      omega
theorem batch_ge (top : Int) (ht : top ≤ 1099511627775) (key : ByteArray) (ps : List PutM) (h : batchOf top key ps ≤ top) : (evCount ps : Int) ≤ top := by
  have hs := sumTo_le2 0 key.size ps.length (by omega) (by omega) (by omega) (by omega)
  have := bulk_ge top ht ps _ hs.1 h
  unfold batchOf at h
  omega
end Go.Proofs.Ytgoodlbkjciloaa
