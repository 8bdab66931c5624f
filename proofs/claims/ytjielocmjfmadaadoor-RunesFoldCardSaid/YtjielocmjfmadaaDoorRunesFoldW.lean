/- penstocklaw1.RunesFold: the walk. Condition: utf8's two tables lie as the library lays them. -/
import Derived.Test.YtjielocmjfmadaaDoorFoldLaw
import Derived.Test.YtjielocmjfmadaaDoorAwake1
namespace Go.Proofs.YtjielocmjfmadaaDoor.runesFold
open Go.RowKit

set_option maxRecDepth 100000 in
set_option maxHeartbeats 1000000 in
theorem walk (s : ByteArray) (w : World) (hs : s.size ≤ 9223372036854775807) (hT : Tabs w) :
    Calls Tryd.prog 8 #[.string s] w fun e w' => e = .returned (.bool true) ∧ G w w' := by
  by_cases hbig : (1000 : Int) < s.size
  · go_enter Tryd.func8, Tryd.ntmps8
    go_wp2_with fail
    refine (awake1_any w hT).mono ?_
    rintro e w1 ⟨rfl, hg⟩
    go_wp2_with fail
    go_ret
    exact ⟨rfl, hg⟩
  have hdl : s.data.toList.length = s.size := by simp
  have hsz : (strOf (foldL s.data.toList)).size = s.size := by rw [strOf_size, foldL_length, hdl]
  have h1 := fold_any s w (by omega)
  have h2 : ∀ w', _ := fun w' => fold_any (strOf (foldL s.data.toList)) w' (by omega)
  rw [show foldL (strOf (foldL s.data.toList)).data.toList = foldL s.data.toList by rw [strOf_list, foldL_idem]] at h2
  have n1 : ∀ w', G w w' → _ := fun w' h => name_any (strOf (foldL s.data.toList)) w' (by omega) (hT.g h)
  have n2 : ∀ w', G w w' → _ := fun w' h => name_any s w' (by omega) (hT.g h)
  have v1 : ∀ w', G w w' → _ := fun w' h => valid_any (strOf (foldL s.data.toList)) w' (by omega) (hT.g h)
  have v2 : ∀ w', G w w' → _ := fun w' h => valid_any s w' (by omega) (hT.g h)
  have c1 : ∀ w', _ := fun w' => count_any (strOf (foldL s.data.toList)) w' (by omega)
  have c2 : ∀ w', _ := fun w' => count_any s w' (by omega)
  have aw : ∀ w', G w w' → _ := fun w' h => awake1_any w' (hT.g h)
  rw [name_fold] at n1
  rw [valid_fold] at v1
  rw [count_fold] at c1
  have hbs : ∀ (k : Nat) (x : UInt8), s.data.toList[k]? = some x → ∀ w', (Instr.index 9 (.string s) (.int .i64 k)).run Tryd.prog w' = .ok (.int .u8 x.toNat) w' := fun k x h w' => run_byte w' s k x h
  have hbf : ∀ (k : Nat) (x : UInt8), s.data.toList[k]? = some x → ∀ w', (Instr.index 9 (.string (strOf (foldL s.data.toList))) (.int .i64 k)).run Tryd.prog w' = .ok (.int .u8 (foldN x.toNat)) w' := fun k x h w' => by
    have := run_byte w' (strOf (foldL s.data.toList)) k (foldB x) (by rw [strOf_list]; unfold foldL; rw [List.getElem?_map, h]; rfl)
    rw [foldB_nat] at this
    exact this
  generalize strOf (foldL s.data.toList) = f at *
  generalize nameB s = B1 at *
  generalize validB s = B2 at *
  generalize (cks s.data.toList).length = N1 at *
  replace h2 := Lib.hid h2
  replace n1 := Lib.hid n1
  replace n2 := Lib.hid n2
  replace v1 := Lib.hid v1
  replace v2 := Lib.hid v2
  replace c1 := Lib.hid c1
  replace c2 := Lib.hid c2
  replace aw := Lib.hid aw
  replace hbs := Lib.hid hbs
  replace hbf := Lib.hid hbf
  replace hdl := Lib.hid hdl
  go_enter Tryd.func8, Tryd.ntmps8
  go_wp2_with fail
  refine h1.mono ?_
  clear h1
  rintro e w1 ⟨rfl, hg1⟩
  go_wp2_with fail
  refine (h2.out w1).mono ?_
  rintro e w2 ⟨rfl, hg2⟩
  replace hg2 := hg1.trans hg2
  go_wp2_with fail
  refine (n1.out w2 hg2).mono ?_
  rintro e w3 ⟨rfl, hg3⟩
  replace hg3 := hg2.trans hg3
  go_wp2_with fail
  refine (n2.out w3 hg3).mono ?_
  rintro e w4 ⟨rfl, hg4⟩
  replace hg4 := hg3.trans hg4
  go_wp2_with fail
  refine (v1.out w4 hg4).mono ?_
  rintro e w5 ⟨rfl, hg5⟩
  replace hg5 := hg4.trans hg5
  go_wp2_with fail
  refine (v2.out w5 hg5).mono ?_
  rintro e w6 ⟨rfl, hg6⟩
  replace hg6 := hg5.trans hg6
  go_wp2_with fail
  refine (c1.out w6).mono ?_
  rintro e w7 ⟨rfl, hg7⟩
  replace hg7 := hg6.trans hg7
  go_wp2_with fail
  refine (c2.out w7).mono ?_
  rintro e w8 ⟨rfl, hg8⟩
  replace hg8 := hg7.trans hg8
  clear hg1 hg2 hg3 hg4 hg5 hg6 hg7
  go_wp2_with fail
  go_loopw [4] (fun i wr => ∃ k : Nat, k ≤ s.size ∧ i = .int .i64 k ∧ G w wr) (fun i _ => s.size - (intOf i).toNat)
  case atStart => exact ⟨0, Nat.zero_le _, rfl, hg8⟩
  case round =>
    obtain ⟨k, hk, rfl, hgr⟩ := hrel
    by_cases hlt : k < s.size
    · obtain ⟨x, hx⟩ : ∃ x, s.data.toList[k]? = some x := ⟨_, List.getElem?_eq_getElem (by rw [hdl.out]; exact hlt)⟩
      have i1 := hbs.out k x hx
      have i2 := hbf.out k x hx
      have hx1 := x.toNat_lt
      generalize x.toNat = b at *
      clear hx
      by_cases ha : b < 65
      · rw [show foldN b = b by unfold foldN; rw [if_neg (by omega)]] at i2
        have t2 : decide ((65 : Int) ≤ b) = false := decide_eq_false (by omega)
        replace ha := Lib.hid ha
        go_wp2_with fail
        go_quiet (fail)
        go_wp2_with fail
        go_roundw
        case rel => exact ⟨k + 1, by omega, by go_num, hgr.drewN _⟩
        case measure => (simp [intOf] <;> omega)
      · by_cases hz : b ≤ 90
        · rw [show foldN b = b + 32 by unfold foldN; rw [if_pos (by omega)]] at i2
          obtain ⟨y, hy⟩ : ∃ y, b + 32 = y := ⟨_, rfl⟩
          rw [hy] at i2
          have hw8 : IntKind.u8.wrap ((b : Int) + 32) = (y : Int) := by
            have : (b : Int) + 32 = y := by omega
            rw [this]
            unfold IntKind.wrap
            simp [IntKind.signed, IntKind.bits]
            omega
          have t1 : decide ((65 : Int) ≤ y) = true := decide_eq_true (by omega)
          have t2 : decide ((y : Int) ≤ 90) = false := decide_eq_false (by omega)
          have t3 : ((y : Int) != (b : Int)) = true := by rw [bne_iff_ne]; omega
          have t4 : (b : Int) + 32 = y := by omega
          replace hy := Lib.hid hy
          replace ha := Lib.hid ha
          go_wp2_with fail
          go_quiet (fail)
          go_wp2_with fail
          go_roundw
          case rel => exact ⟨k + 1, by omega, by go_num, hgr.drewN _⟩
          case measure => (simp [intOf] <;> omega)
        · rw [show foldN b = b by unfold foldN; rw [if_neg (by omega)]] at i2
          have t1 : decide ((65 : Int) ≤ b) = true := decide_eq_true (by omega)
          have t2 : decide ((b : Int) ≤ 90) = false := decide_eq_false (by omega)
          replace ha := Lib.hid ha
          go_wp2_with fail
          go_quiet (fail)
          go_wp2_with fail
          go_roundw
          case rel => exact ⟨k + 1, by omega, by go_num, hgr.drewN _⟩
          case measure => (simp [intOf] <;> omega)
    · go_wp2_with fail
      refine (aw.out _ hgr).mono ?_
      rintro e w9 ⟨rfl, hg9⟩
      go_wp2_with fail
      go_ret
      exact ⟨rfl, hgr.trans hg9⟩
end Go.Proofs.YtjielocmjfmadaaDoor.runesFold
