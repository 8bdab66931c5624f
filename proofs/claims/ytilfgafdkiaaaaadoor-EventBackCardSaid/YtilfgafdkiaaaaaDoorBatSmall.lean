/- What a small bulk says of a batch. Plain mathematics, no program. No condition. -/
import Derived.Test.YtilfgafdkiaaaaaDoorBatch
import Derived.Test.YtilfgafdkiaaaaaDoorMay
namespace Go.Proofs.YtilfgafdkiaaaaaDoor
open Go.RowKit

theorem sumTo_le_two {n a b top : Int} (_ha : 0 ≤ a) (_hb : 0 ≤ b) (ht : top < 1099511627776) (h : sumTo n [a, b] ≤ top) : n + a + b ≤ top := by
  unfold sumTo at h
  split at h
  · unfold sumTo at h
    split at h
    · unfold sumTo at h; omega
    · omega
  · omega
theorem sumTo_le_one {n a top : Int} (ht : top < 1099511627776) (h : sumTo n [a] ≤ top) : n + a ≤ top := by
  unfold sumTo at h
  split at h
  · unfold sumTo at h; omega
  · omega
theorem upTo_small {top : Int} (ht : top < 1099511627776) : ∀ (l : List Int) (n : Int), (∀ m ∈ l, 0 ≤ m) → 0 ≤ n → upTo top n l ≤ top → n ≤ top ∧ ∀ m ∈ l, m ≤ top
  | [], n, _, _, h => ⟨h, fun _ h => by cases h⟩
  | m :: l, n, hl, hn, h => by
    have hm := hl m (by simp)
    unfold upTo at h
    split at h
    · have h1 := upTo_small ht l (sumTo n [m]) (fun k hk => hl k (by simp [hk])) (by
        unfold sumTo
        split
        · unfold sumTo; omega
        · omega) h
      have h2 := sumTo_le_one ht h1.1
      refine ⟨by omega, fun k hk => ?_⟩
      rcases List.mem_cons.1 hk with rfl | hk
      · omega
      · exact h1.2 k hk
    · omega
theorem total_small {top : Int} (ht : top < 1099511627776) {ss : List ByteArray} (h : totalOf top ss ≤ top) : (ss.length : Int) ≤ top ∧ ∀ s ∈ ss, (s.size : Int) ≤ top := by
  unfold totalOf at h
  have h1 := upTo_small ht _ _ (fun m hm => by simp at hm; obtain ⟨s, _, rfl⟩ := hm; omega) (by
    unfold sumTo
    split
    · unfold sumTo; omega
    · omega) h
  have h2 := sumTo_le_one ht h1.1
  exact ⟨by omega, fun s hs => h1.2 _ (List.mem_map.2 ⟨s, hs, rfl⟩)⟩
theorem bulkTo_small {top : Int} (ht : top < 1099511627776) : ∀ (ps : List PutM) (n : Int), bulkTo top n ps ≤ top → n ≤ top ∧ (0 ≤ n → ∀ p ∈ ps, (p.stream.size : Int) ≤ top ∧ totalOf top p.data ≤ top)
  | [], n, h => ⟨h, fun _ _ h => by cases h⟩
  | p :: l, n, h => by
    unfold bulkTo at h
    split at h
    · have h1 := bulkTo_small ht l _ h
      have h0 := (totalOf_le top p.data).1
      have h2 := sumTo_le_two (by omega) h0 ht h1.1
      refine ⟨by omega, fun hn q hq => ?_⟩
      rcases List.mem_cons.1 hq with rfl | hq
      · exact ⟨by omega, by omega⟩
      · refine h1.2 ?_ q hq
        unfold sumTo
        split
        · unfold sumTo
          split
          · unfold sumTo; omega
          · omega
        · omega
    · omega
theorem bat_small_at {top : Int} (htop : top ≤ 40000) {key : ByteArray} {ps : List PutM} (h : batchOf top key ps ≤ top) (he : ∀ p ∈ ps, -9223372036854775808 ≤ p.expect ∧ p.expect ≤ 9223372036854775807) : key.size ≤ 40000 ∧ PutsSmall ps := by
  unfold batchOf at h
  have h1 := bulkTo_small (by omega) _ _ h
  have h2 := sumTo_le_two (by omega) (by omega) (by omega) h1.1
  have h3 := h1.2 (by
    unfold sumTo
    split
    · unfold sumTo
      split
      · unfold sumTo; omega
      · omega
    · omega)
  refine ⟨by omega, by omega, fun p hp => ?_⟩
  have h4 := h3 p hp
  have h5 := total_small (by omega) h4.2
  exact ⟨by omega, he p hp, by omega, fun s hs => by have := h5.2 s hs; omega⟩
theorem bat_small {key : ByteArray} {ps : List PutM} (h : batchOf 40000 key ps ≤ 40000) (he : ∀ p ∈ ps, -9223372036854775808 ≤ p.expect ∧ p.expect ≤ 9223372036854775807) : key.size ≤ 40000 ∧ PutsSmall ps := bat_small_at (Int.le_refl _) h he
end Go.Proofs.YtilfgafdkiaaaaaDoor
