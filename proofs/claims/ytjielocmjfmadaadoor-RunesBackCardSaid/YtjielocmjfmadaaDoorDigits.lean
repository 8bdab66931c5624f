/- runes.digit, runes.escaped, penstockref1.digit: what they answer. No condition. -/
import Derived.Test.YtjielocmjfmadaaDoorUnqLaw
namespace Go.Proofs.YtjielocmjfmadaaDoor
open Go.RowKit

theorem digV_lo {c : UInt8} (h : 48 ≤ c.toNat ∧ c.toNat ≤ 57) : digV c = some (c.toNat - 48) := if_pos h
theorem digV_hi {c : UInt8} (h : 97 ≤ c.toNat ∧ c.toNat ≤ 102) : digV c = some (c.toNat - 87) := by unfold digV; rw [if_neg (by omega), if_pos h]
theorem digV_no {c : UInt8} (h : ¬ (48 ≤ c.toNat ∧ c.toNat ≤ 57)) (h2 : ¬ (97 ≤ c.toNat ∧ c.toNat ≤ 102)) : digV c = none := by unfold digV; rw [if_neg h, if_neg h2]
theorem digV_lt {c : UInt8} {x : Nat} (h : digV c = some x) : x < 16 := by
  unfold digV at h
  split at h
  · cases h; omega
  · split at h
    · cases h; omega
    · cases h
/-- What the two digits answer. -/
def digT : Option Nat → Value
  | some x => .tuple #[.int .u8 x, .bool true]
  | none => .tuple #[.int .u8 0, .bool false]
def digI : Option Nat → Value
  | some x => .int .i64 x
  | none => .int .i64 (-1)
theorem ret_dig {a b : Int} (h : a = b) : Ending.returned (.tuple #[.int .u8 a, .bool true]) = .returned (.tuple #[.int .u8 b, .bool true]) := by rw [h]
set_option maxHeartbeats 1000000 in
theorem digit_any (c : UInt8) (w : World) : Calls Tryd.prog 43 #[.int .u8 c.toNat] w fun e w' => e = .returned (digT (digV c)) ∧ w = w' := by
  have hlt := c.toNat_lt
  by_cases h1 : 48 ≤ c.toNat ∧ c.toNat ≤ 57
  · have hd := digV_lo h1
    rw [hd]
    obtain ⟨y, hy⟩ : ∃ y, c.toNat - 48 = y := ⟨_, rfl⟩
    have hy2 : (c.toNat : Int) - 48 = (y : Int) := by omega
    rw [hy]
    have t1 : (48 : Int) ≤ (c.toNat : Int) := by omega
    have t2 : (c.toNat : Int) ≤ 57 := by omega
    generalize c.toNat = n at *
    clear h1 hd hy
    replace hy2 := Lib.hid hy2
    go_enter Tryd.func43, Tryd.ntmps43
    go_wp2
    go_ret2
    exact ⟨ret_dig hy2.out, rfl⟩
  · by_cases h2 : 97 ≤ c.toNat ∧ c.toNat ≤ 102
    · have hd := digV_hi h2
      rw [hd]
      obtain ⟨y, hy⟩ : ∃ y, c.toNat - 87 = y := ⟨_, rfl⟩
      have hy2 : (c.toNat : Int) - 97 + 10 = (y : Int) := by omega
      rw [hy]
      have t0 : ¬ (c.toNat : Int) ≤ 57 := by omega
      have t1 : (97 : Int) ≤ (c.toNat : Int) := by omega
      have t2 : (c.toNat : Int) ≤ 102 := by omega
      have t5 : (48 : Int) ≤ (c.toNat : Int) := by omega
      generalize c.toNat = n at *
      clear h1 h2 hd hy
      replace hy2 := Lib.hid hy2
      go_enter Tryd.func43, Tryd.ntmps43
      go_wp2
      go_ret2
      exact ⟨ret_dig hy2.out, rfl⟩
    · rw [digV_no h1 h2]
      by_cases s1 : 48 ≤ c.toNat
      · have t1 : (48 : Int) ≤ (c.toNat : Int) := by omega
        have t2 : ¬ (c.toNat : Int) ≤ 57 := by omega
        by_cases s2 : 97 ≤ c.toNat
        · have t3 : (97 : Int) ≤ (c.toNat : Int) := by omega
          have t4 : ¬ (c.toNat : Int) ≤ 102 := by omega
          generalize c.toNat = n at *
          clear h1 h2 s1 s2
          go_enter Tryd.func43, Tryd.ntmps43
          go_wp2
          go_ret2
          exact ⟨rfl, rfl⟩
        · have t3 : ¬ (97 : Int) ≤ (c.toNat : Int) := by omega
          generalize c.toNat = n at *
          clear h1 h2 s1 s2
          go_enter Tryd.func43, Tryd.ntmps43
          go_wp2
          go_ret2
          exact ⟨rfl, rfl⟩
      · have t1 : ¬ (48 : Int) ≤ (c.toNat : Int) := by omega
        have t3 : ¬ (97 : Int) ≤ (c.toNat : Int) := by omega
        generalize c.toNat = n at *
        clear h1 h2 s1
        go_enter Tryd.func43, Tryd.ntmps43
        go_wp2
        go_ret2
        exact ⟨rfl, rfl⟩
set_option maxHeartbeats 1000000 in
theorem refDigit_any (c : UInt8) (w : World) : Calls Tryd.prog 34 #[.int .u8 c.toNat] w fun e w' => e = .returned (digI (digV c)) ∧ w = w' := by
  have hlt := c.toNat_lt
  by_cases h1 : 48 ≤ c.toNat ∧ c.toNat ≤ 57
  · have hd := digV_lo h1
    rw [hd]
    obtain ⟨y, hy⟩ : ∃ y, c.toNat - 48 = y := ⟨_, rfl⟩
    have hy2 : (c.toNat : Int) - 48 = (y : Int) := by omega
    rw [hy]
    have t1 : (48 : Int) ≤ (c.toNat : Int) := by omega
    have t2 : (c.toNat : Int) ≤ 57 := by omega
    generalize c.toNat = n at *
    clear h1 hd hy
    replace hy2 := Lib.hid hy2
    go_enter Tryd.func34, Tryd.ntmps34
    go_wp2
    go_ret
    exact ⟨ret_int hy2.out, rfl⟩
  · by_cases h2 : 97 ≤ c.toNat ∧ c.toNat ≤ 102
    · have hd := digV_hi h2
      rw [hd]
      obtain ⟨y, hy⟩ : ∃ y, c.toNat - 87 = y := ⟨_, rfl⟩
      have hy2 : (c.toNat : Int) - 97 + 10 = (y : Int) := by omega
      rw [hy]
      have t0 : ¬ (c.toNat : Int) ≤ 57 := by omega
      have t1 : (97 : Int) ≤ (c.toNat : Int) := by omega
      have t2 : (c.toNat : Int) ≤ 102 := by omega
      have t5 : (48 : Int) ≤ (c.toNat : Int) := by omega
      generalize c.toNat = n at *
      clear h1 h2 hd hy
      replace hy2 := Lib.hid hy2
      go_enter Tryd.func34, Tryd.ntmps34
      go_wp2
      go_ret
      exact ⟨ret_int hy2.out, rfl⟩
    · rw [digV_no h1 h2]
      by_cases s1 : 48 ≤ c.toNat
      · have t1 : (48 : Int) ≤ (c.toNat : Int) := by omega
        have t2 : ¬ (c.toNat : Int) ≤ 57 := by omega
        by_cases s2 : 97 ≤ c.toNat
        · have t3 : (97 : Int) ≤ (c.toNat : Int) := by omega
          have t4 : ¬ (c.toNat : Int) ≤ 102 := by omega
          generalize c.toNat = n at *
          clear h1 h2 s1 s2
          go_enter Tryd.func34, Tryd.ntmps34
          go_wp2
          go_ret
          exact ⟨rfl, rfl⟩
        · have t3 : ¬ (97 : Int) ≤ (c.toNat : Int) := by omega
          generalize c.toNat = n at *
          clear h1 h2 s1 s2
          go_enter Tryd.func34, Tryd.ntmps34
          go_wp2
          go_ret
          exact ⟨rfl, rfl⟩
      · have t1 : ¬ (48 : Int) ≤ (c.toNat : Int) := by omega
        have t3 : ¬ (97 : Int) ≤ (c.toNat : Int) := by omega
        generalize c.toNat = n at *
        clear h1 h2 s1
        go_enter Tryd.func34, Tryd.ntmps34
        go_wp2
        go_ret
        exact ⟨rfl, rfl⟩
end Go.Proofs.YtjielocmjfmadaaDoor
