/- runes.Cut: what it answers. Conditions: the length fits an int, the number is one of 64 bits. -/
import Derived.Test.YtjielocmjfmadaaDoorRefAll
namespace Go.Proofs.YtjielocmjfmadaaDoor
open Go.RowKit

theorem cutB_over' {s : ByteArray} {n : Int} (h : (cks s.data.toList).length ≤ n.toNat) : cutB s n = s := by
  unfold cutB
  rw [off_over h]
  exact extract_all s
set_option maxHeartbeats 1000000 in
theorem cut_any (s : ByteArray) (q : Int) (w : World) (hs : s.size ≤ 9223372036854775807) (hq : -9223372036854775808 ≤ q ∧ q ≤ 9223372036854775807) :
    Calls Tryd.prog 29 #[.string s, .int .i64 q] w fun e w' => e = .returned (.string (cutB s q)) ∧ G w w' := by
  have hl : (cks s.data.toList).length ≤ 9223372036854775807 := Nat.le_trans (cks_length_le _) (by simpa using hs)
  go_enter Tryd.func29, Tryd.ntmps29
  go_wp2_with fail
  go_loopw [1] (fun n wr => ∃ (k : Nat) (z : Int), k ≤ (cks s.data.toList).length ∧ n = .int .i64 z ∧ z = q - k ∧ k ≤ q.toNat ∧ Hid (IterAt wr w.heap.size s k) ∧ G w wr) (fun _ wr => s.size - wr.iterPos w.heap.size)
  case atStart => exact ⟨0, _, Nat.zero_le _, rfl, by omega, Nat.zero_le _, IterAt.start w s, G.iter _ _ _⟩
  case round =>
    obtain ⟨k, z, hk, rfl, hz, hkq, hit, hg⟩ := hrel
    by_cases hlt : k < (cks s.data.toList).length
    · obtain ⟨c, hc⟩ := piece_at hlt
      have hpos := hit.out.pos
      have hless := off_less hc
      have hle := off_le s.data.toList k
      have hsl : s.data.toList.length = s.size := by simp
      rw [hsl] at hle
      obtain ⟨w1, hnx, hit1, hbt, hsz1⟩ := run_next_piece (P := Tryd.prog) hit.out hc
      have hg1 := hg.next hbt (by omega)
      replace hit1 := Lib.hid hit1
      replace hpos := Lib.hid hpos
      replace hless := Lib.hid hless
      clear hc hit hbt hsz1 hsl
      by_cases h0 : z ≤ 0
      · have hcu : cutB s q = s.extract 0 (off s.data.toList k) := by
          unfold cutB
          rw [show q.toNat = k by omega]
        replace hcu := Lib.hid hcu
        replace hz := Lib.hid hz
        clear hless
        generalize off s.data.toList k = p at *
        have n3 : (0 : Int) ≤ (p : Int) := by omega
        have n4 : (p : Int) ≤ (s.size : Int) := by omega
        go_wp2_with fail
        go_ret
        exact ⟨by rw [hcu.out]; rfl, hg1⟩
      · have n1 : (0 : Int) ≤ z := by omega
        have n2 : z ≤ 9223372036854775807 := by omega
        have hz2 : z - 1 = q - ((k + 1 : Nat) : Int) := by omega
        have hk2 : k + 1 ≤ q.toNat := by omega
        replace hz := Lib.hid hz
        replace hz2 := Lib.hid hz2
        generalize hp : off s.data.toList k = p at *
        replace hp := Lib.hid hp
        go_wp2_with fail
        go_roundw
        case rel => exact ⟨k + 1, _, by omega, rfl, hz2.out, hk2, hit1, hg1⟩
        case measure => rw [hpos.out, hit1.out.pos]; exact hless.out
    · have hnx := fun ty => run_next_over (P := Tryd.prog) ty hit.out (by omega)
      have hcu := cutB_over' (s := s) (n := q) (by omega)
      replace hcu := Lib.hid hcu
      replace hz := Lib.hid hz
      go_wp2_with fail
      go_ret
      exact ⟨by rw [hcu.out]; rfl, hg⟩
end Go.Proofs.YtjielocmjfmadaaDoor
