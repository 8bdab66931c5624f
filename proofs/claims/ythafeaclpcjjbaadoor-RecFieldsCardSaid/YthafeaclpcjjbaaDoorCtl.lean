/- runes.control: what it answers. No condition. -/
import Derived.Test.YthafeaclpcjjbaaDoorTabs
namespace Go.Proofs.YthafeaclpcjjbaaDoor
open Go.RowKit Go.Lib

/-- A rune that is not shown. -/
def ctl (r : Int) : Bool := decide (r < 32) || decide (r = 127)
set_option maxHeartbeats 400000 in
theorem control_any (r : Int) (w : World) : Calls Tryd.prog 95 #[.int .i32 r] w fun e w' => e = .returned (.bool (ctl r)) ∧ w = w' := by
  by_cases h1 : r < 32
  · go_enter Tryd.func95, Tryd.ntmps95
    go_wp2
    go_ret
    exact ⟨ret_bool (by simp [ctl, h1]), rfl⟩
  · by_cases h2 : r = 127
    · subst h2
      go_enter Tryd.func95, Tryd.ntmps95
      go_wp2
      go_ret
      exact ⟨rfl, rfl⟩
    · have h3 : (r == 127) = false := by rw [beq_eq_false_iff_ne]; exact h2
      replace h2 := Lib.hid h2
      go_enter Tryd.func95, Tryd.ntmps95
      go_wp2
      go_ret
      exact ⟨ret_bool (by simp [ctl, h1, h2.out]), rfl⟩
end Go.Proofs.YthafeaclpcjjbaaDoor
