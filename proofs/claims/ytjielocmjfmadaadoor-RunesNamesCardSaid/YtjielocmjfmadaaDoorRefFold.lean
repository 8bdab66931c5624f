/- penstockref1.Fold: what it answers. Condition: the length is at most 2^40. -/
import Derived.Test.YtjielocmjfmadaaDoorFold
namespace Go.Proofs.YtjielocmjfmadaaDoor
open Go.RowKit

set_option maxHeartbeats 1000000 in
theorem refFold_any (s : ByteArray) (w : World) (hs : s.size ≤ 1099511627776) :
    Calls Tryd.prog 28 #[.string s] w fun e w' => e = .returned (.string (strOf (foldL s.data.toList))) ∧ G w w' := by
  obtain ⟨c, w1, hcv, hc1, hc2, hba, hg1⟩ := bytes_of_string w s (by omega)
  have hsl : s.data.toList.length = s.size := by simp
  generalize hn : s.size = n at *
  replace hba := Lib.hid hba
  replace hsl := Lib.hid hsl
  replace hn := Lib.hid hn
  go_enter Tryd.func28, Tryd.ntmps28
  go_wp2_with fail
  clear hcv
  go_loopw [4] (fun i wr => ∃ k : Nat, k ≤ n ∧ i = .int .i64 k ∧ Hid (BytesAt wr w.heap.size ((s.data.toList.take k).map foldB ++ s.data.toList.drop k)) ∧ G w wr) (fun i _ => n - (intOf i).toNat)
  case atStart => exact ⟨0, Nat.zero_le _, rfl, by simpa using hba, hg1⟩
  case round =>
    obtain ⟨k, hk, rfl, hb, hg⟩ := hrel
    by_cases hlt : k < n
    · obtain ⟨x, hx⟩ : ∃ x, s.data.toList[k]? = some x := ⟨_, List.getElem?_eq_getElem (by rw [hsl.out]; exact hlt)⟩
      have hcell := hb.out.cell ((fold_get _ _).trans hx)
      have hfree := hb.out.free (i := k) (by rw [fold_len, hsl.out]; exact hlt)
      have hx1 : x.toNat < 256 := x.toNat_lt
      have n1 : (0 : Int) ≤ ↑k := by omega
      have n2 : (k : Int) < ↑n := by omega
      by_cases h65 : 65 ≤ x.toNat ∧ x.toNat ≤ 90
      · have hset := hb.out.set k (foldB x)
        rw [fold_part _ _ _ hx] at hset
        have hfx : (foldB x).toNat = x.toNat + 32 := by
          unfold foldB
          rw [if_pos h65, UInt8.toNat_add]
          simp
          omega
        rw [hfx] at hset
        have t1 : (65 : Int) ≤ ↑x.toNat := by omega
        have t2 : (x.toNat : Int) ≤ 90 := by omega
        replace hset := Lib.hid hset
        clear hb hx hfx h65
        generalize x.toNat = b at *
        have hg2 := hg.set (p := ⟨w.heap.size, k, none⟩) (Nat.le_refl _) (.int .u8 ((b + 32 : Nat) : Int))
        rw [show ((b + 32 : Nat) : Int) = (b : Int) + 32 by omega] at hset hg2
        go_wp2_with fail
        go_roundw
        case rel => exact ⟨k + 1, by omega, by go_num, hset, hg2⟩
        case measure => (simp [intOf] <;> omega)
      · have hfx : foldB x = x := by unfold foldB; rw [if_neg h65]
        have hsame := hb.out
        rw [fold_same _ _ _ hx hfx] at hsame
        replace hsame := Lib.hid hsame
        clear hb hx hfx
        generalize x.toNat = b at *
        by_cases t1 : (65 : Int) ≤ b
        · have t2 : ¬ (b : Int) ≤ 90 := by omega
          go_wp2_with fail
          go_roundw
          case rel => exact ⟨k + 1, by omega, by go_num, hsame, hg⟩
          case measure => (simp [intOf] <;> omega)
        · go_wp2_with fail
          go_roundw
          case rel => exact ⟨k + 1, by omega, by go_num, hsame, hg⟩
          case measure => (simp [intOf] <;> omega)
    · have hfin := conv_back (c := c) hb.out.sl
      rw [fold_len, hsl.out] at hfin
      rw [List.take_of_length_le (by rw [hsl.out]; omega), List.drop_of_length_le (by rw [hsl.out]; omega), List.append_nil] at hfin
      go_wp2_with fail
      go_ret
      exact ⟨rfl, hg⟩

end Go.Proofs.YtjielocmjfmadaaDoor
