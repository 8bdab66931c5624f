/- penstocklaw2.awake answers true. Condition: the decoder's tables lie as the library lays them. -/
import Derived.Test.YtngpbochhabhkaaDoorGlobMatch
namespace Go.Proofs.YtngpbochhabhkaaDoor
open Go.RowKit

theorem patOk_of {p : ByteArray} {P : List Pc} {b : Bool} (hv : validB p = true) (hl : (cks p.data.toList).length ≤ 40) (hP : parseL (runesL p) = (P, b)) : patOk p = !b := by
  unfold patOk
  rw [hv, hP, decide_eq_true (by omega)]
  rfl
theorem matchB_of {p : ByteArray} {P : List Pc} (s : ByteArray) (hv : validB p = true) (hl : (cks p.data.toList).length ≤ 40) (hP : parseL (runesL p) = (P, false)) : matchB p s = (validB s && matchL P (runesL s)) := by
  unfold matchB patP
  rw [patOk_of hv hl hP, hP]
  rfl
theorem matchL_t {P : List Pc} {u : List Nat} (h : Mt P u) : matchL P u = true := (matchL_iff P u).2 h
theorem matchL_f {P : List Pc} {u : List Nat} (h : ¬ Mt P u) : matchL P u = false := by
  cases hm : matchL P u with
  | false => rfl
  | true => exact absurd ((matchL_iff P u).1 hm) h
def aw1 : ByteArray := ⟨#[97, 42, 91, 48, 45, 57, 93]⟩
def aw2 : ByteArray := ⟨#[97, 98, 99, 55]⟩
def aw3 : ByteArray := ⟨#[63]⟩
def aw4 : ByteArray := ⟨#[195, 169]⟩
def aw5 : ByteArray := ⟨#[97]⟩
def aw6 : ByteArray := ⟨#[98]⟩
def aw7 : ByteArray := ⟨#[91, 122, 45, 97, 93]⟩
theorem aw_match1 : matchB aw1 aw2 = true := by
  rw [matchB_of aw2 (by decide +kernel) (by decide +kernel) (show parseL (runesL aw1) = ([lit 97, star, ⟨3, 0, [(48, 57)], false⟩], false) by kernel_rfl)]
  rw [show runesL aw2 = [97, 98, 99, 55] by decide +kernel, show validB aw2 = true by decide +kernel, Bool.true_and]
  refine matchL_t (.one _ _ _ _ rfl rfl (.any _ _ [98, 99] [55] rfl (.one _ _ _ _ rfl rfl .nil)))
theorem aw_match2 : matchB aw3 aw4 = true := by
  rw [matchB_of aw4 (by decide +kernel) (by decide +kernel) (show parseL (runesL aw3) = ([quest], false) by kernel_rfl)]
  rw [show runesL aw4 = [233] by decide +kernel, show validB aw4 = true by decide +kernel, Bool.true_and]
  exact matchL_t (.one _ _ _ _ rfl rfl .nil)
theorem aw_match3 : matchB aw5 aw6 = false := by
  rw [matchB_of aw6 (by decide +kernel) (by decide +kernel) (show parseL (runesL aw5) = ([97].map lit, false) by kernel_rfl)]
  rw [show runesL aw6 = [98] by decide +kernel, show validB aw6 = true by decide +kernel, Bool.true_and]
  exact matchL_f fun h => by
    have := (Mt.lits _ _).1 h
    simp at this
theorem aw_ok4 : patOk aw7 = false := by decide +kernel
set_option maxHeartbeats 400000 in
theorem awake2_any (w : World) (hT : Tabs w) : Calls Tryd.prog 12 #[] w fun e w' => e = .returned (.bool true) ∧ G w w' := by
  have h1 := match_any aw1 aw2 w (by decide) (by decide) hT
  rw [aw_match1] at h1
  have h2 : ∀ w', G w w' → _ := fun w' h => match_any aw3 aw4 w' (by decide) (by decide) (hT.g h)
  rw [aw_match2] at h2
  have h3 : ∀ w', G w w' → _ := fun w' h => match_any aw5 aw6 w' (by decide) (by decide) (hT.g h)
  rw [aw_match3] at h3
  have h4 : ∀ w', G w w' → _ := fun w' h => check_any aw7 w' (by decide) (hT.g h)
  rw [aw_ok4] at h4
  unfold aw1 aw2 at h1
  unfold aw3 aw4 at h2
  unfold aw5 aw6 at h3
  unfold aw7 chkI at h4
  replace h2 := Lib.hid h2
  replace h3 := Lib.hid h3
  replace h4 := Lib.hid h4
  go_enter Tryd.func12, Tryd.ntmps12
  go_wp2_with fail
  refine h1.mono ?_
  rintro e w1 ⟨rfl, hg1⟩
  go_wp2_with fail
  refine (h2.out w1 hg1).mono ?_
  rintro e w2 ⟨rfl, hg2⟩
  replace hg2 := hg1.trans hg2
  go_wp2_with fail
  refine (h3.out w2 hg2).mono ?_
  rintro e w3 ⟨rfl, hg3⟩
  replace hg3 := hg2.trans hg3
  go_wp2_with fail
  refine (h4.out w3 hg3).mono ?_
  rintro e w4 ⟨rfl, hg4⟩
  go_wp2_with fail
  go_ret
  exact ⟨rfl, hg3.trans hg4⟩
end Go.Proofs.YtngpbochhabhkaaDoor
