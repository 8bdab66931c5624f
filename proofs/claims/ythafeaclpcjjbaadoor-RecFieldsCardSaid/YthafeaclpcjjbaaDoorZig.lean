/- bits.Zig, bits.Zag, penstockref3.Zig, penstockref3.Zag: what they answer. Conditions: a number of 64 bits; of Zig one from -1 to 2^40. -/
import Derived.Test.YthafeaclpcjjbaaDoorBase
import Derived.Laws.Bits64b
import Derived.Laws.Bits64
namespace Go.Proofs.YthafeaclpcjjbaaDoor
open Go.RowKit

/-- A number with its sign as its last digit, and back. -/
def zigN (n : Int) : Nat := if n < 0 then (-(n + 1)).toNat * 2 + 1 else n.toNat * 2
def zagI (v : Nat) : Int := if v % 2 = 1 then -((v / 2 : Nat) : Int) - 1 else ((v / 2 : Nat) : Int)
theorem zag_zig (n : Int) : zagI (zigN n) = n := by
  unfold zagI zigN
  by_cases h : n < 0
  · rw [if_pos h, if_pos (by omega)]; omega
  · rw [if_neg h, if_neg (by omega)]; omega
theorem zig_lt {n : Int} (h : -1 ≤ n) (h2 : n ≤ 1099511627776) : zigN n < 2 ^ 64 := by
  unfold zigN
  split <;> omega
theorem zag_i64 {v : Nat} (h : v < 2 ^ 64) : -9223372036854775808 ≤ zagI v ∧ zagI v ≤ 9223372036854775807 := by
  unfold zagI
  split <;> omega
theorem xor_m1 (a : Nat) (h : a < 9223372036854775808) : bits .xor .i64 (a : Int) (-1) = -(a : Int) - 1 := by
  show IntKind.i64.wrap ((BitVec.ofInt 64 (a : Int) ^^^ BitVec.ofInt 64 (-1)).toNat : Int) = _
  rw [show (BitVec.ofInt 64 (-1)) = BitVec.allOnes 64 by decide, BitVec.xor_allOnes, BitVec.toNat_not, BitVec.ofInt_natCast, BitVec.toNat_ofNat, Nat.mod_eq_of_lt (by omega)]
  obtain ⟨c, hc⟩ : ∃ c, 2 ^ 64 - 1 - a = c := ⟨_, rfl⟩
  rw [hc]
  unfold IntKind.wrap
  simp [IntKind.bits, IntKind.signed]
  omega
theorem xor_0 (a : Nat) (h : a < 9223372036854775808) : bits .xor .i64 (a : Int) 0 = (a : Int) := by
  show IntKind.i64.wrap ((BitVec.ofInt 64 (a : Int) ^^^ BitVec.ofInt 64 0).toNat : Int) = _
  rw [show (BitVec.ofInt 64 0) = 0#64 by decide, BitVec.xor_zero, BitVec.ofInt_natCast, BitVec.toNat_ofNat, Nat.mod_eq_of_lt (by omega)]
  exact IntWalk.i64_in _ (by omega)
theorem and_1 (v : Nat) (h : v < 2 ^ 64) : bits .and .u64 (v : Int) 1 = ((v % 2 : Nat) : Int) := by
  have := bits_and_u64_nat v 1 (by simpa using h) (by omega)
  rw [show ((1 : Nat) : Int) = 1 from rfl] at this
  rw [this, Nat.and_one_is_mod]
theorem zag_any (v : Nat) (w : World) (h : v < 2 ^ 64) : Calls Tryd.prog 78 #[.int .u64 v] w fun e w' => e = .returned (.int .i64 (zagI v)) ∧ w = w' := by
  obtain ⟨Q, hQ⟩ : ∃ Q, v / 2 = Q := ⟨_, rfl⟩
  have hq : (v : Int) / 2 = (Q : Int) := by omega
  have hl : Q < 9223372036854775808 := by omega
  have hw : IntKind.i64.wrap (Q : Int) = (Q : Int) := IntWalk.i64_in _ (by omega)
  have h1 := xor_m1 Q hl
  have h0 := xor_0 Q hl
  have ha := and_1 v h
  by_cases hm : v % 2 = 1
  · have hz : zagI v = -(Q : Int) - 1 := by unfold zagI; rw [if_pos hm, hQ]
    rw [hm] at ha
    replace hz := Lib.hid hz
    replace hQ := Lib.hid hQ
    replace hm := Lib.hid hm
    clear h0 hl h
    go_enter Tryd.func78, Tryd.ntmps78
    go_wp2_with fail
    go_ret
    exact ⟨by rw [hz.out]; rfl, rfl⟩
  · have hz : zagI v = (Q : Int) := by unfold zagI; rw [if_neg hm, hQ]
    rw [show v % 2 = 0 by omega] at ha
    replace hz := Lib.hid hz
    replace hQ := Lib.hid hQ
    clear h1 hl h hm
    go_enter Tryd.func78, Tryd.ntmps78
    go_wp2_with fail
    go_ret
    exact ⟨by rw [hz.out]; rfl, rfl⟩
theorem zig_any (n : Int) (w : World) (h : -1 ≤ n) (h2 : n ≤ 1099511627776) : Calls Tryd.prog 69 #[.int .i64 n] w fun e w' => e = .returned (.int .u64 (zigN n)) ∧ w = w' := by
  by_cases hn : n = -1
  · subst hn
    go_enter Tryd.func69, Tryd.ntmps69
    go_wp2_with fail
    go_ret
    exact ⟨rfl, rfl⟩
  · obtain ⟨m, rfl⟩ : ∃ m : Nat, n = m := ⟨n.toNat, by omega⟩
    have hz : ((zigN (m : Int) : Nat) : Int) = (m : Int) * 2 := by unfold zigN; rw [if_neg (by omega)]; omega
    have e1 : IntKind.u64.wrap (m : Int) = (m : Int) := by rw [IntKind.wrap_u64]; omega
    have e3 : (m : Int) / 9223372036854775808 = 0 := by omega
    have e4 := bits_xor_u64_nat (m * 2) 0 (by omega) (by omega)
    rw [Nat.xor_zero, show ((m * 2 : Nat) : Int) = (m : Int) * 2 by omega, show ((0 : Nat) : Int) = 0 from rfl] at e4
    replace hz := Lib.hid hz
    clear hn h
    go_enter Tryd.func69, Tryd.ntmps69
    go_wp2_with fail
    go_ret
    exact ⟨by rw [hz.out]; rfl, rfl⟩
theorem refZig_any (n : Int) (w : World) (h : -1 ≤ n) (h2 : n ≤ 1099511627776) : Calls Tryd.prog 54 #[.int .i64 n] w fun e w' => e = .returned (.int .u64 (zigN n)) ∧ w = w' := by
  by_cases hn : n = -1
  · subst hn
    go_enter Tryd.func54, Tryd.ntmps54
    go_wp2_with fail
    go_ret
    exact ⟨rfl, rfl⟩
  · obtain ⟨m, rfl⟩ : ∃ m : Nat, n = m := ⟨n.toNat, by omega⟩
    have hz : ((zigN (m : Int) : Nat) : Int) = (m : Int) * 2 := by unfold zigN; rw [if_neg (by omega)]; omega
    have e1 : IntKind.u64.wrap (m : Int) = (m : Int) := by rw [IntKind.wrap_u64]; omega
    replace hz := Lib.hid hz
    clear hn h
    go_enter Tryd.func54, Tryd.ntmps54
    go_wp2_with fail
    go_ret
    exact ⟨by rw [hz.out]; rfl, rfl⟩
end Go.Proofs.YthafeaclpcjjbaaDoor
