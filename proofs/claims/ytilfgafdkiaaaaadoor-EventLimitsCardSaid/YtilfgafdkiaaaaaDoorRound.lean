/- penstockalike.Round: what it answers. Condition: the second number is above 0. -/
import Derived.Test.YtilfgafdkiaaaaaDoorBase
namespace Go.Proofs.YtilfgafdkiaaaaaDoor
open Go.RowKit

set_option maxHeartbeats 400000 in
theorem round_any (k n : Int) (w : World) (hn : 1 ≤ n) (hn2 : n ≤ 9223372036854775807) (_hk : -9223372036854775808 ≤ k) (_hk2 : k ≤ 9223372036854775807) :
    Calls Tryd.prog 32 #[.int .i64 k, .int .i64 n] w fun e w' => e = .returned (.int .i64 (k % n)) ∧ w = w' := by
  have h1 := Int.tmod_lt_of_pos k (show 0 < n by omega)
  have h2 : -n < k.tmod n := by
    have := Int.lt_tmod_of_pos k (show 0 < n by omega)
    omega
  have h3 : k % n = if k.tmod n < 0 then k.tmod n + n else k.tmod n := by
    rw [Int.tmod_eq_emod]
    have h4 := Int.emod_nonneg k (show n ≠ 0 by omega)
    have h5 := Int.emod_lt_of_pos k (show 0 < n by omega)
    split <;> (try split) <;> omega
  replace h3 := Lib.hid h3
  generalize hm : k.tmod n = m at *
  go_enter Tryd.func32, Tryd.ntmps32
  go_wp2
  all_goals (go_ret; exact ⟨ret_int (by rw [h3.out]; split <;> omega), rfl⟩)
end Go.Proofs.YtilfgafdkiaaaaaDoor
