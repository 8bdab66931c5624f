/- penstocklaw1.RunesCount: the walk. Condition: utf8's two tables lie as the library lays them. -/
import Derived.Test.YtjielocmjfmadaaDoorRefAll
import Derived.Test.YtjielocmjfmadaaDoorAwake1
namespace Go.Proofs.YtjielocmjfmadaaDoor.runesCount
open Go.RowKit

theorem atV_form (l : List UInt8) (k : Int) : ∃ (r p : Int) (b : Bool), atV l k = .tuple #[.int .i32 r, .int .i64 p, .bool b] := by
  unfold atV
  split
  · split
    · exact ⟨_, _, _, rfl⟩
    · exact ⟨_, _, _, rfl⟩
  · exact ⟨_, _, _, rfl⟩
set_option maxRecDepth 100000 in
set_option maxHeartbeats 1000000 in
theorem walk (s : ByteArray) (q : Int) (w : World) (hs : s.size ≤ 9223372036854775807) (hT : Tabs w) :
    Calls Tryd.prog 4 #[.string s, .int .i64 q] w fun e w' => e = .returned (.bool true) ∧ G w w' := by
  by_cases hbig : (1000 : Int) < s.size
  · go_enter Tryd.func4, Tryd.ntmps4
    go_wp2_with fail
    refine (awake1_any w hT).mono ?_
    rintro e w1 ⟨rfl, hg⟩
    go_wp2_with fail
    go_ret
    exact ⟨rfl, hg⟩
  have a1 := at_any s q w hs
  have a2 : ∀ w', _ := fun w' => refAt_any s q w' (by omega)
  have v1 : ∀ w', G w w' → _ := fun w' h => valid_any s w' hs (hT.g h)
  have v2 : ∀ w', _ := fun w' => refValid_any s w' (by omega)
  have c1 : ∀ w', _ := fun w' => count_any s w' hs
  have c2 : ∀ w', _ := fun w' => refCount_any s w' (by omega)
  have aw : ∀ w', G w w' → _ := fun w' h => awake1_any w' (hT.g h)
  obtain ⟨r, p, b, hv⟩ := atV_form s.data.toList q
  rw [hv] at a1 a2
  clear hv
  generalize validB s = B2 at *
  generalize (cks s.data.toList).length = N1 at *
  replace a2 := Lib.hid a2
  replace v1 := Lib.hid v1
  replace v2 := Lib.hid v2
  replace c1 := Lib.hid c1
  replace c2 := Lib.hid c2
  replace aw := Lib.hid aw
  go_enter Tryd.func4, Tryd.ntmps4
  go_wp2_with fail
  refine a1.mono ?_
  clear a1
  rintro e w1 ⟨rfl, hg1⟩
  go_wp2_with fail
  refine (a2.out w1).mono ?_
  rintro e w2 ⟨rfl, hg2⟩
  replace hg2 := hg1.trans hg2
  go_wp2_with fail
  refine (v1.out w2 hg2).mono ?_
  rintro e w3 ⟨rfl, hg3⟩
  replace hg3 := hg2.trans hg3
  go_wp2_with fail
  refine (v2.out w3).mono ?_
  rintro e w4 ⟨rfl, hg4⟩
  replace hg4 := hg3.trans hg4
  go_wp2_with fail
  refine (c1.out w4).mono ?_
  rintro e w5 ⟨rfl, hg5⟩
  replace hg5 := hg4.trans hg5
  go_wp2_with fail
  refine (c2.out w5).mono ?_
  rintro e w6 ⟨rfl, hg6⟩
  replace hg6 := hg5.trans hg6
  go_wp2_with fail
  refine (aw.out w6 hg6).mono ?_
  rintro e w7 ⟨rfl, hg7⟩
  replace hg7 := hg6.trans hg7
  go_wp2_with fail
  go_ret
  exact ⟨rfl, hg7⟩
end Go.Proofs.YtjielocmjfmadaaDoor.runesCount
