/- penstocklaw10.awake answers true. No condition. -/
import Derived.Test.YtheogchkelmeeaaDoorM40MsgAs
namespace Go.Proofs.YtheogchkelmeeaaDoor
open Go.RowKit

set_option maxRecDepth 100000 in
theorem awakeF_any (w : World) : Calls Tryd.prog 32 #[] w fun e w' => ∃ u pv, e = .panicked [{ v := .iface u pv, recovered := false }] ∧ G w w' := by
  have hm := fun w' => mustFeed_no 3 (.int .i64 7) w' (by decide)
  replace hm := Lib.hid hm
  go_enter Tryd.func32, Tryd.ntmps32
  go_wp2_with fail
  (with_reducible refine Calls.mono (hm.out _) ?_)
  rintro e w1 ⟨u, pv, rfl, hg⟩
  go_wp2_with fail
  exact ⟨rfl, u, pv, rfl, hg⟩
set_option maxRecDepth 100000 in
set_option maxHeartbeats 1000000 in
theorem awake10_any (w : World) : Calls Tryd.prog 9 #[] w fun e w' => e = .returned (.bool true) ∧ G w w' := by
  have he := fun w' => msgEnc_no .nilIface w' kindNil_any
  have hk := fun w' => kind4_any (.agg #[.int .i64 0, .int .i64 0, .int .i64 0]) w'
  have hp := fun w' => panics_yes 32 #[] w' (fun w => by kernel_rfl) (fun w'' _ => awakeF_any w'')
  replace he := Lib.hid he
  replace hk := Lib.hid hk
  replace hp := Lib.hid hp
  go_enter Tryd.func9, Tryd.ntmps9
  go_wp2_with (first
    | (go_at_call 18; (with_reducible refine Calls.mono (he.out _) ?_); rintro e w1 ⟨A1, c1, rfl, _, hg1⟩)
    | (go_at_call 19; (with_reducible refine Calls.mono (hk.out _) ?_); rintro e w2 ⟨rfl, hg2⟩)
    | (go_at_call 15; (with_reducible refine Calls.mono (hp.out _) ?_); rintro e w3 ⟨rfl, hg3⟩))
  go_ret
  exact ⟨rfl, (hg1.trans hg2).trans hg3⟩
end Go.Proofs.YtheogchkelmeeaaDoor
