/- penstocklaw1.RunesQuotes: the walk. Condition: utf8's two tables lie as the library lays them. -/
import Derived.Test.YtjielocmjfmadaaDoorRefUnq
import Derived.Test.YtjielocmjfmadaaDoorAwake1
namespace Go.Proofs.YtjielocmjfmadaaDoor.runesQuotes
open Go.RowKit

set_option maxRecDepth 100000 in
set_option maxHeartbeats 1000000 in
theorem walk (s : ByteArray) (w : World) (hs : s.size ≤ 9223372036854775807) (hT : Tabs w) :
    Calls Tryd.prog 5 #[.string s] w fun e w' => e = .returned (.bool true) ∧ G w w' := by
  by_cases hbig : (1000 : Int) < s.size
  · go_enter Tryd.func5, Tryd.ntmps5
    go_wp2_with fail
    refine (awake1_any w hT).mono ?_
    rintro e w1 ⟨rfl, hg⟩
    go_wp2_with fail
    go_ret
    exact ⟨rfl, hg⟩
  obtain ⟨T, B, hu⟩ := unq_is s.data.toList
  have a1 := unquote_any s T B w (by omega) hT hu
  have a2 : ∀ w', _ := fun w' => refUnquote_any s T B w' (by omega) hu (by omega)
  have v1 : ∀ w', G w w' → _ := fun w' h => quote_any s w' (by omega) (hT.g h)
  have v2 : ∀ w', _ := fun w' => refQuote_any s w' (by omega)
  have aw : ∀ w', G w w' → _ := fun w' h => awake1_any w' (hT.g h)
  generalize strOf T = S1 at *
  generalize strOf (quoteL s.data.toList) = S2 at *
  clear hu
  replace a2 := Lib.hid a2
  replace v1 := Lib.hid v1
  replace v2 := Lib.hid v2
  replace aw := Lib.hid aw
  go_enter Tryd.func5, Tryd.ntmps5
  go_wp2_with fail
  refine a1.mono ?_
  clear a1
  rintro e w1 ⟨rfl, hg1⟩
  go_wp2_with fail
  refine (a2.out w1).mono ?_
  rintro e w2 ⟨rfl, hg2⟩
  replace hg2 := hg1.trans hg2
  go_wp2_with fail
  refine (v1.out w2 hg2).mono ?_
  rintro e w3 ⟨rfl, hg3⟩
  replace hg3 := hg2.trans hg3
  go_wp2_with fail
  refine (v2.out w3).mono ?_
  rintro e w4 ⟨rfl, hg4⟩
  replace hg4 := hg3.trans hg4
  go_wp2_with fail
  refine (aw.out w4 hg4).mono ?_
  rintro e w9 ⟨rfl, hg9⟩
  replace hg9 := hg4.trans hg9
  go_wp2_with fail
  go_ret
  exact ⟨rfl, hg9⟩
end Go.Proofs.YtjielocmjfmadaaDoor.runesQuotes
