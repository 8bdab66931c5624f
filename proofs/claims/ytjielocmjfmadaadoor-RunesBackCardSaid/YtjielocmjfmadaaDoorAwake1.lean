/- penstocklaw1.awake answers true. Condition: the decoder's tables lie as the library lays them. -/
import Derived.Test.YtjielocmjfmadaaDoorQuoteOf
namespace Go.Proofs.YtjielocmjfmadaaDoor
open Go.RowKit Go.Lib

theorem cks_aé : cks [97, 195, 169] = [⟨[97], 97⟩, ⟨[195, 169], 233⟩] := by decide +kernel
theorem quote_awake : quoteL [97, 255] = [34, 97, 92, 120, 102, 102, 34] := by decide +kernel
set_option maxHeartbeats 400000 in
theorem awake1_any (w : World) (hT : Tabs w) : Calls Tryd.prog 11 #[] w fun e w' => e = .returned (.bool true) ∧ G w w' := by
  have h1 := at_any ⟨#[97, 195, 169]⟩ 1 w (by decide)
  rw [show atV (⟨#[97, 195, 169]⟩ : ByteArray).data.toList 1 = .tuple #[.int .i32 233, .int .i64 1, .bool true] from by
    show atV [97, 195, 169] 1 = _
    unfold atV
    rw [cks_aé]
    rfl] at h1
  have h2 : ∀ w', _ := fun w' => count_any ⟨#[97, 195, 169]⟩ w' (by decide)
  rw [show (cks (⟨#[97, 195, 169]⟩ : ByteArray).data.toList).length = 2 from by rw [show (⟨#[97, 195, 169]⟩ : ByteArray).data.toList = [97, 195, 169] from rfl, cks_aé]; rfl] at h2
  have h3 : ∀ w', G w w' → _ := fun w' h => quote_any ⟨#[97, 255]⟩ w' (by decide) (hT.g h)
  rw [show quoteL (⟨#[97, 255]⟩ : ByteArray).data.toList = [34, 97, 92, 120, 102, 102, 34] from quote_awake] at h3
  replace h2 := Lib.hid h2
  replace h3 := Lib.hid h3
  go_enter Tryd.func11, Tryd.ntmps11
  go_wp2_with fail
  refine h1.mono ?_
  rintro e w1 ⟨rfl, hg1⟩
  go_wp2_with fail
  refine (h2.out _).mono ?_
  rintro e w2 ⟨rfl, hg2⟩
  have hg := hg1.trans hg2
  go_wp2_with fail
  refine (h3.out _ hg).mono ?_
  rintro e w3 ⟨rfl, hg3⟩
  unfold strOf
  go_wp2_with fail
  go_ret
  exact ⟨rfl, hg.trans hg3⟩
end Go.Proofs.YtjielocmjfmadaaDoor
