/- penstocklaw1.RunesNames: the walk. Condition: utf8's two tables lie as the library lays them. -/
import Derived.Test.YtjielocmjfmadaaDoorCut
import Derived.Test.YtjielocmjfmadaaDoorRefFold
import Derived.Test.YtjielocmjfmadaaDoorAwake1
namespace Go.Proofs.YtjielocmjfmadaaDoor.runesNames
open Go.RowKit

set_option maxRecDepth 100000 in
set_option maxHeartbeats 1000000 in
theorem walk (s : ByteArray) (q : Int) (w : World) (hs : s.size ≤ 9223372036854775807) (hq : -9223372036854775808 ≤ q ∧ q ≤ 9223372036854775807) (hT : Tabs w) :
    Calls Tryd.prog 9 #[.string s, .int .i64 q] w fun e w' => e = .returned (.bool true) ∧ G w w' := by
  by_cases hbig : (1000 : Int) < s.size
  · go_enter Tryd.func9, Tryd.ntmps9
    go_wp2_with fail
    refine (awake1_any w hT).mono ?_
    rintro e w1 ⟨rfl, hg⟩
    go_wp2_with fail
    go_ret
    exact ⟨rfl, hg⟩
  have a1 := name_any s w (by omega) hT
  have a2 : ∀ w', _ := fun w' => refName_any s w' (by omega)
  have v1 : ∀ w', G w w' → _ := fun w' h => key_any s w' (by omega) (hT.g h)
  have v2 : ∀ w', _ := fun w' => refKey_any s w' (by omega)
  have c1 : ∀ w', _ := fun w' => fold_any s w' (by omega)
  have c2 : ∀ w', _ := fun w' => refFold_any s w' (by omega)
  have d1 : ∀ w', _ := fun w' => cut_any s q w' hs hq
  have d2 : ∀ w', _ := fun w' => refCut_any s q w' (by omega)
  have aw : ∀ w', G w w' → _ := fun w' h => awake1_any w' (hT.g h)
  generalize nameB s = B1 at *
  generalize keyB s = B2 at *
  generalize strOf (foldL s.data.toList) = S1 at *
  generalize cutB s q = S2 at *
  replace a2 := Lib.hid a2
  replace v1 := Lib.hid v1
  replace v2 := Lib.hid v2
  replace c1 := Lib.hid c1
  replace c2 := Lib.hid c2
  replace d1 := Lib.hid d1
  replace d2 := Lib.hid d2
  replace aw := Lib.hid aw
  go_enter Tryd.func9, Tryd.ntmps9
  go_wp2_with fail
  refine a1.mono ?_
  clear a1
  rintro e w1 ⟨rfl, hg1⟩
  go_wp2_with fail
  refine (a2.out w1).mono ?_
  rintro e w2 ⟨rfl, hg2⟩
  replace hg2 := hg1.trans hg2
  go_wp2_with fail
  refine (v1.out w2 hg2).mono ?_
  rintro e w3 ⟨rfl, hg3⟩
  replace hg3 := hg2.trans hg3
  go_wp2_with fail
  refine (v2.out w3).mono ?_
  rintro e w4 ⟨rfl, hg4⟩
  replace hg4 := hg3.trans hg4
  go_wp2_with fail
  refine (c1.out w4).mono ?_
  rintro e w5 ⟨rfl, hg5⟩
  replace hg5 := hg4.trans hg5
  go_wp2_with fail
  refine (c2.out w5).mono ?_
  rintro e w6 ⟨rfl, hg6⟩
  replace hg6 := hg5.trans hg6
  go_wp2_with fail
  refine (d1.out w6).mono ?_
  rintro e w7 ⟨rfl, hg7⟩
  replace hg7 := hg6.trans hg7
  go_wp2_with fail
  refine (d2.out w7).mono ?_
  rintro e w8 ⟨rfl, hg8⟩
  replace hg8 := hg7.trans hg8
  go_wp2_with fail
  refine (aw.out w8 hg8).mono ?_
  rintro e w9 ⟨rfl, hg9⟩
  replace hg9 := hg8.trans hg9
  go_wp2_with fail
  go_ret
  exact ⟨rfl, hg9⟩
end Go.Proofs.YtjielocmjfmadaaDoor.runesNames
