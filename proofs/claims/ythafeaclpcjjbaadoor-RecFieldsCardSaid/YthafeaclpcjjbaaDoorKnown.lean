/- event.known: what it answers. Conditions: texts of at most 2^30 bytes; the decoder's tables lie as the library lays them. -/
import Derived.Test.YthafeaclpcjjbaaDoorName
import Derived.Test.YthafeaclpcjjbaaDoorSound
import Derived.Test.YthafeaclpcjjbaaDoorBatLaw
namespace Go.Proofs.YthafeaclpcjjbaaDoor
open Go.RowKit

set_option maxRecDepth 100000 in
set_option maxHeartbeats 2000000 in
theorem known_any (key : ByteArray) (v x y z : Int) (w : World) (hs : key.size ≤ 1073741824) (hT : Tabs w) :
    Calls Tryd.prog 73 #[.agg #[.string key, .int .i64 v, .int .i64 x, .int .i64 y, .int .i64 z]] w fun e w' => e = .returned (.bool (knOk ⟨key, v, ⟨x, y, z⟩⟩)) ∧ G w w' := by
  have hk : ∀ w', G w w' → Calls Tryd.prog 88 #[.string key] w' fun e w'' => e = .returned (.bool (keyB key)) ∧ G w' w'' := fun w' hg => key_any key w' (by omega) (hT.g hg)
  have ho : ∀ w', Calls Tryd.prog 70 #[.agg #[.int .i64 x, .int .i64 y, .int .i64 z]] w' fun e w'' => e = .returned (.bool (stOk ⟨x, y, z⟩)) ∧ G w' w'' := fun w' => sound_any x y z w'
  unfold knOk
  simp only
  clear hT
  cases h1 : key.toList.isEmpty with
  | true =>
    go_enter Tryd.func73, Tryd.ntmps73
    go_wp2_with fail
    go_ret
    exact ⟨by simp, G.new _ _⟩
  | false =>
    cases h2 : keyB key with
    | false =>
      rw [h2] at hk
      go_enter Tryd.func73, Tryd.ntmps73
      go_wp2_with fail
      generalize hW0 : w.alloc (.cells #[.string key, .int .i64 v, .int .i64 x, .int .i64 y, .int .i64 z] 95) = W0
      have hz : w.heap.size + 0 < W0.heap.size := by rw [← hW0]; simp
      have hG0 : G w W0 := by rw [← hW0]; exact G.new _ _
      have r0 : W0.cell? ⟨w.heap.size, 0, none⟩ = some (.string key) := by rw [← hW0]; simp
      have r1 : W0.cell? ⟨w.heap.size, 1, none⟩ = some (.int .i64 v) := by rw [← hW0]; simp
      have r2 : W0.cell? ⟨w.heap.size, 2, none⟩ = some (.int .i64 x) := by rw [← hW0]; simp
      have r3 : W0.cell? ⟨w.heap.size, 3, none⟩ = some (.int .i64 y) := by rw [← hW0]; simp
      have r4 : W0.cell? ⟨w.heap.size, 4, none⟩ = some (.int .i64 z) := by rw [← hW0]; simp
      clear hW0
      have q0 : ∀ w', G W0 w' → w'.cell? ⟨w.heap.size, 0, none⟩ = some (.string key) := fun w' h => (h.cell (by omega)).trans r0
      have q1 : ∀ w', G W0 w' → w'.cell? ⟨w.heap.size, 1, none⟩ = some (.int .i64 v) := fun w' h => (h.cell (by omega)).trans r1
      have q2 : ∀ w', G W0 w' → w'.cell? ⟨w.heap.size, 2, none⟩ = some (.int .i64 x) := fun w' h => (h.cell (by omega)).trans r2
      have q3 : ∀ w', G W0 w' → w'.cell? ⟨w.heap.size, 3, none⟩ = some (.int .i64 y) := fun w' h => (h.cell (by omega)).trans r3
      have q4 : ∀ w', G W0 w' → w'.cell? ⟨w.heap.size, 4, none⟩ = some (.int .i64 z) := fun w' h => (h.cell (by omega)).trans r4
      clear r0 r1 r2 r3 r4
      refine (hk W0 hG0).mono ?_
      rintro e w1 ⟨rfl, hg1⟩
      go_wp2_with fail
      go_ret
      exact ⟨by simp, hG0.trans hg1⟩
    | true =>
      rw [h2] at hk
      by_cases h3 : 1 ≤ v
      case neg =>
        have t3 : decide (1 ≤ v) = false := decide_eq_false h3
        go_enter Tryd.func73, Tryd.ntmps73
        go_wp2_with fail
        generalize hW0 : w.alloc (.cells #[.string key, .int .i64 v, .int .i64 x, .int .i64 y, .int .i64 z] 95) = W0
        have hz : w.heap.size + 0 < W0.heap.size := by rw [← hW0]; simp
        have hG0 : G w W0 := by rw [← hW0]; exact G.new _ _
        have r0 : W0.cell? ⟨w.heap.size, 0, none⟩ = some (.string key) := by rw [← hW0]; simp
        have r1 : W0.cell? ⟨w.heap.size, 1, none⟩ = some (.int .i64 v) := by rw [← hW0]; simp
        have r2 : W0.cell? ⟨w.heap.size, 2, none⟩ = some (.int .i64 x) := by rw [← hW0]; simp
        have r3 : W0.cell? ⟨w.heap.size, 3, none⟩ = some (.int .i64 y) := by rw [← hW0]; simp
        have r4 : W0.cell? ⟨w.heap.size, 4, none⟩ = some (.int .i64 z) := by rw [← hW0]; simp
        clear hW0
        have q0 : ∀ w', G W0 w' → w'.cell? ⟨w.heap.size, 0, none⟩ = some (.string key) := fun w' h => (h.cell (by omega)).trans r0
        have q1 : ∀ w', G W0 w' → w'.cell? ⟨w.heap.size, 1, none⟩ = some (.int .i64 v) := fun w' h => (h.cell (by omega)).trans r1
        have q2 : ∀ w', G W0 w' → w'.cell? ⟨w.heap.size, 2, none⟩ = some (.int .i64 x) := fun w' h => (h.cell (by omega)).trans r2
        have q3 : ∀ w', G W0 w' → w'.cell? ⟨w.heap.size, 3, none⟩ = some (.int .i64 y) := fun w' h => (h.cell (by omega)).trans r3
        have q4 : ∀ w', G W0 w' → w'.cell? ⟨w.heap.size, 4, none⟩ = some (.int .i64 z) := fun w' h => (h.cell (by omega)).trans r4
        clear r0 r1 r2 r3 r4
        refine (hk W0 hG0).mono ?_
        rintro e w1 ⟨rfl, hg1⟩
        have g1 := q1 w1 hg1
        go_wp2_with fail
        go_ret
        exact ⟨ret_bool (by rw [decide_eq_false (by omega)]; rfl), hG0.trans hg1⟩
      by_cases h4 : v ≤ 1099511627776
      case neg =>
        have t4 : decide (v ≤ 1099511627776) = false := decide_eq_false h4
        go_enter Tryd.func73, Tryd.ntmps73
        go_wp2_with fail
        generalize hW0 : w.alloc (.cells #[.string key, .int .i64 v, .int .i64 x, .int .i64 y, .int .i64 z] 95) = W0
        have hz : w.heap.size + 0 < W0.heap.size := by rw [← hW0]; simp
        have hG0 : G w W0 := by rw [← hW0]; exact G.new _ _
        have r0 : W0.cell? ⟨w.heap.size, 0, none⟩ = some (.string key) := by rw [← hW0]; simp
        have r1 : W0.cell? ⟨w.heap.size, 1, none⟩ = some (.int .i64 v) := by rw [← hW0]; simp
        have r2 : W0.cell? ⟨w.heap.size, 2, none⟩ = some (.int .i64 x) := by rw [← hW0]; simp
        have r3 : W0.cell? ⟨w.heap.size, 3, none⟩ = some (.int .i64 y) := by rw [← hW0]; simp
        have r4 : W0.cell? ⟨w.heap.size, 4, none⟩ = some (.int .i64 z) := by rw [← hW0]; simp
        clear hW0
        have q0 : ∀ w', G W0 w' → w'.cell? ⟨w.heap.size, 0, none⟩ = some (.string key) := fun w' h => (h.cell (by omega)).trans r0
        have q1 : ∀ w', G W0 w' → w'.cell? ⟨w.heap.size, 1, none⟩ = some (.int .i64 v) := fun w' h => (h.cell (by omega)).trans r1
        have q2 : ∀ w', G W0 w' → w'.cell? ⟨w.heap.size, 2, none⟩ = some (.int .i64 x) := fun w' h => (h.cell (by omega)).trans r2
        have q3 : ∀ w', G W0 w' → w'.cell? ⟨w.heap.size, 3, none⟩ = some (.int .i64 y) := fun w' h => (h.cell (by omega)).trans r3
        have q4 : ∀ w', G W0 w' → w'.cell? ⟨w.heap.size, 4, none⟩ = some (.int .i64 z) := fun w' h => (h.cell (by omega)).trans r4
        clear r0 r1 r2 r3 r4
        refine (hk W0 hG0).mono ?_
        rintro e w1 ⟨rfl, hg1⟩
        have g1 := q1 w1 hg1
        go_wp2_with fail
        go_ret
        exact ⟨ret_bool (by rw [decide_eq_false (by omega)]; rfl), hG0.trans hg1⟩
      rw [show decide (1 ≤ v ∧ v ≤ 1099511627776) = true from decide_eq_true ⟨h3, h4⟩]
      generalize stOk ⟨x, y, z⟩ = so at *
      go_enter Tryd.func73, Tryd.ntmps73
      go_wp2_with fail
      generalize hW0 : w.alloc (.cells #[.string key, .int .i64 v, .int .i64 x, .int .i64 y, .int .i64 z] 95) = W0
      have hz : w.heap.size + 0 < W0.heap.size := by rw [← hW0]; simp
      have hG0 : G w W0 := by rw [← hW0]; exact G.new _ _
      have r0 : W0.cell? ⟨w.heap.size, 0, none⟩ = some (.string key) := by rw [← hW0]; simp
      have r1 : W0.cell? ⟨w.heap.size, 1, none⟩ = some (.int .i64 v) := by rw [← hW0]; simp
      have r2 : W0.cell? ⟨w.heap.size, 2, none⟩ = some (.int .i64 x) := by rw [← hW0]; simp
      have r3 : W0.cell? ⟨w.heap.size, 3, none⟩ = some (.int .i64 y) := by rw [← hW0]; simp
      have r4 : W0.cell? ⟨w.heap.size, 4, none⟩ = some (.int .i64 z) := by rw [← hW0]; simp
      clear hW0
      have q0 : ∀ w', G W0 w' → w'.cell? ⟨w.heap.size, 0, none⟩ = some (.string key) := fun w' h => (h.cell (by omega)).trans r0
      have q1 : ∀ w', G W0 w' → w'.cell? ⟨w.heap.size, 1, none⟩ = some (.int .i64 v) := fun w' h => (h.cell (by omega)).trans r1
      have q2 : ∀ w', G W0 w' → w'.cell? ⟨w.heap.size, 2, none⟩ = some (.int .i64 x) := fun w' h => (h.cell (by omega)).trans r2
      have q3 : ∀ w', G W0 w' → w'.cell? ⟨w.heap.size, 3, none⟩ = some (.int .i64 y) := fun w' h => (h.cell (by omega)).trans r3
      have q4 : ∀ w', G W0 w' → w'.cell? ⟨w.heap.size, 4, none⟩ = some (.int .i64 z) := fun w' h => (h.cell (by omega)).trans r4
      clear r0 r1 r2 r3 r4
      refine (hk W0 hG0).mono ?_
      rintro e w1 ⟨rfl, hg1⟩
      have g1 := q1 w1 hg1
      have g2 := q2 w1 hg1
      have g3 := q3 w1 hg1
      have g4 := q4 w1 hg1
      go_wp2_with fail
      refine (ho w1).mono ?_
      rintro e w2 ⟨rfl, hg2⟩
      go_wp2_with fail
      go_ret
      exact ⟨by simp, (hG0.trans hg1).trans hg2⟩
end Go.Proofs.YthafeaclpcjjbaaDoor
