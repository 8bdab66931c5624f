/- runes.Count: how many runes a text has. Condition: the length fits an int. -/
import Derived.Test.YthhhobfdlgmjlaaDoorM6WholeRow
namespace Go.Proofs.YthhhobfdlgmjlaaDoor
open Go.RowKit

set_option maxHeartbeats 400000 in
theorem count_any (s : ByteArray) (w : World) (hs : s.size ≤ 9223372036854775807) :
    Calls Tryd.prog 59 #[.string s] w fun e w' => e = .returned (.int .i64 (cks s.data.toList).length) ∧ G w w' := by
  have hl : (cks s.data.toList).length ≤ 9223372036854775807 := Nat.le_trans (cks_length_le _) (by simpa using hs)
  go_enter Tryd.func59, Tryd.ntmps59
  go_wp2_with fail
  go_loopw [2] (fun n wr => ∃ k : Nat, k ≤ (cks s.data.toList).length ∧ n = .int .i64 k ∧ Hid (IterAt wr w.heap.size s k) ∧ G w wr) (fun n _ => (cks s.data.toList).length - (intOf n).toNat)
  case atStart => exact ⟨0, Nat.zero_le _, rfl, IterAt.start w s, G.iter _ _ _⟩
  case round =>
    obtain ⟨k, hk, rfl, hit, hg⟩ := hrel
    by_cases hlt : k < (cks s.data.toList).length
    · obtain ⟨c, hc⟩ := piece_at hlt
      obtain ⟨w1, hnx, hit1, hbt, _⟩ := run_next_piece (P := Tryd.prog) hit.out hc
      have hg1 := hg.next hbt (Nat.le_refl _)
      replace hit1 := Lib.hid hit1
      clear hc hit hbt
      go_wp2_with fail
      go_roundw
      case rel => exact ⟨k + 1, by omega, by go_num, hit1, hg1⟩
      case measure => (simp [intOf] <;> omega)
    · have hnx := fun ty => run_next_over (P := Tryd.prog) ty hit.out (by omega)
      go_wp2_with fail
      go_ret
      exact ⟨ret_int (by omega), hg⟩
end Go.Proofs.YthhhobfdlgmjlaaDoor
