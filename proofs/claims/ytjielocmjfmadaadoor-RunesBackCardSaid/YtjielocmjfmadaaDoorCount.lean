/- runes.Count, runes.At: how many runes a text has; each of them, and where it begins. Condition: the length fits an int. -/
import Derived.Test.YtjielocmjfmadaaDoorRange
namespace Go.Proofs.YtjielocmjfmadaaDoor
open Go.RowKit

theorem piece_at {l : List UInt8} {k : Nat} (h : k < (cks l).length) : ∃ c, (cks l)[k]? = some c := ⟨_, List.getElem?_eq_getElem h⟩
set_option maxHeartbeats 400000 in
theorem count_any (s : ByteArray) (w : World) (hs : s.size ≤ 9223372036854775807) :
    Calls Tryd.prog 12 #[.string s] w fun e w' => e = .returned (.int .i64 (cks s.data.toList).length) ∧ G w w' := by
  have hl : (cks s.data.toList).length ≤ 9223372036854775807 := Nat.le_trans (cks_length_le _) (by simpa using hs)
  go_enter Tryd.func12, Tryd.ntmps12
  go_wp2_with fail
  go_loopw [2] (fun n wr => ∃ k : Nat, k ≤ (cks s.data.toList).length ∧ n = .int .i64 k ∧ Hid (IterAt wr w.heap.size s k) ∧ G w wr) (fun n _ => (cks s.data.toList).length - (intOf n).toNat)
  case atStart => exact ⟨0, Nat.zero_le _, rfl, IterAt.start w s, G.iter _ _ _⟩
  case round =>
    obtain ⟨k, hk, rfl, hit, hg⟩ := hrel
    by_cases hlt : k < (cks s.data.toList).length
    · obtain ⟨c, hc⟩ := piece_at hlt
      obtain ⟨w1, hnx, hit1, hbt, _⟩ := run_next_piece (P := Tryd.prog) hit.out hc
      have hg1 := hg.next hbt (Nat.le_refl _)
      replace hit1 := Lib.hid hit1
      clear hc hit hbt
      go_wp2_with fail
      go_roundw
      case rel => exact ⟨k + 1, by omega, by go_num, hit1, hg1⟩
      case measure => (simp [intOf] <;> omega)
    · have hnx := fun ty => run_next_over (P := Tryd.prog) ty hit.out (by omega)
      go_wp2_with fail
      go_ret
      exact ⟨ret_int (by omega), hg⟩
/-- What runes.At answers. -/
def atV (l : List UInt8) (k : Int) : Value :=
  if 0 ≤ k then (match (cks l)[k.toNat]? with | some c => .tuple #[.int .i32 c.r, .int .i64 (off l k.toNat), .bool true] | none => .tuple #[.int .i32 0, .int .i64 0, .bool false]) else .tuple #[.int .i32 0, .int .i64 0, .bool false]
theorem atV_some {l : List UInt8} {k : Nat} {c : Ck} (h : (cks l)[k]? = some c) : atV l k = .tuple #[.int .i32 c.r, .int .i64 (off l k), .bool true] := by
  unfold atV
  rw [if_pos (by omega), Int.toNat_natCast, h]
theorem atV_none {l : List UInt8} {k : Int} (h : ¬ (0 ≤ k ∧ k < (cks l).length)) : atV l k = .tuple #[.int .i32 0, .int .i64 0, .bool false] := by
  unfold atV
  split
  · rw [List.getElem?_eq_none (by omega)]
  · rfl
set_option maxHeartbeats 400000 in
theorem at_any (s : ByteArray) (q : Int) (w : World) (hs : s.size ≤ 9223372036854775807) :
    Calls Tryd.prog 13 #[.string s, .int .i64 q] w fun e w' => e = .returned (atV s.data.toList q) ∧ G w w' := by
  have hl : (cks s.data.toList).length ≤ 9223372036854775807 := Nat.le_trans (cks_length_le _) (by simpa using hs)
  go_enter Tryd.func13, Tryd.ntmps13
  go_wp2_with fail
  go_loopw [7] (fun n wr => ∃ k : Nat, k ≤ (cks s.data.toList).length ∧ n = .int .i64 k ∧ Hid (IterAt wr w.heap.size s k) ∧ ¬ (0 ≤ q ∧ q < k) ∧ G w wr) (fun n _ => (cks s.data.toList).length - (intOf n).toNat)
  case atStart => exact ⟨0, Nat.zero_le _, rfl, IterAt.start w s, by omega, G.iter _ _ _⟩
  case round =>
    obtain ⟨k, hk, rfl, hit, hq, hg⟩ := hrel
    by_cases hlt : k < (cks s.data.toList).length
    · obtain ⟨c, hc⟩ := piece_at hlt
      obtain ⟨w1, hnx, hit1, hbt, _⟩ := run_next_piece (P := Tryd.prog) hit.out hc
      have hg1 := hg.next hbt (Nat.le_refl _)
      have hat := atV_some hc
      replace hit1 := Lib.hid hit1
      replace hat := Lib.hid hat
      clear hc hit hbt
      by_cases hqk : q = k
      · subst hqk
        have hb : ((k : Int) == (k : Int)) = true := by simp
        go_wp2_with fail
        go_ret3
        exact ⟨by rw [hat.out]; rfl, hg1⟩
      · have hb : ((k : Int) == q) = false := by rw [beq_eq_false_iff_ne]; omega
        replace hqk := Lib.hid hqk
        have hq2 : ¬ (0 ≤ q ∧ q < (k + 1 : Nat)) := by have := hqk.out; omega
        replace hq2 := Lib.hid hq2
        clear hq
        go_wp2_with fail
        go_roundw
        case rel => exact ⟨k + 1, by omega, by go_num, hit1, hq2.out, hg1⟩
        case measure => (simp [intOf] <;> omega)
    · have hnx := fun ty => run_next_over (P := Tryd.prog) ty hit.out (by omega)
      have hat := atV_none (l := s.data.toList) (k := q) (by omega)
      replace hat := Lib.hid hat
      clear hq
      go_wp2_with fail
      go_ret3
      exact ⟨by rw [hat.out]; rfl, hg⟩
end Go.Proofs.YtjielocmjfmadaaDoor
