/- runes.escaped: what it answers. No condition. -/
import Derived.Test.YtjielocmjfmadaaDoorDigits
import Derived.Test.YtjielocmjfmadaaDoorQuoteOf
namespace Go.Proofs.YtjielocmjfmadaaDoor
open Go.RowKit

/-- What runes.escaped answers. -/
def escT (l : List UInt8) : Value :=
  match escV l with
  | some (x, k) => .tuple #[.int .u8 x.toNat, .int .i64 k]
  | none => .tuple #[.int .u8 0, .int .i64 0]
theorem escT_some {l : List UInt8} {x : UInt8} {k : Nat} (h : escV l = some (x, k)) : escT l = .tuple #[.int .u8 x.toNat, .int .i64 k] := by unfold escT; rw [h]
theorem escT_none {l : List UInt8} (h : escV l = none) : escT l = .tuple #[.int .u8 0, .int .i64 0] := by unfold escT; rw [h]
theorem escV_len {l : List UInt8} {x : UInt8} {k : Nat} (h : escV l = some (x, k)) : k ≤ l.length ∧ 1 ≤ k ∧ k ≤ 3 := by
  unfold escV at h
  split at h
  · cases h
  · split at h
    · cases h; simp
    · split at h
      · cases h; simp
      · split at h
        · split at h
          · split at h
            · cases h; simp
            · cases h
          · cases h
        · cases h
set_option maxRecDepth 100000 in
theorem or16 : ∀ x y : Fin 16, bits .or .u8 (((x.val : Nat) : Int) * 16) ((y.val : Nat) : Int) = ((x.val * 16 + y.val : Nat) : Int) := by decide
theorem or16' {x y : Nat} (hx : x < 16) (hy : y < 16) : bits .or .u8 ((x : Int) * 16) (y : Int) = (((UInt8.ofNat (x * 16 + y)).toNat : Nat) : Int) := by
  have h := or16 ⟨x, hx⟩ ⟨y, hy⟩
  dsimp only at h
  rw [h, UInt8.toNat_ofNat']
  omega
theorem ret_esc {a b : Int} (h : a = b) : Ending.returned (.tuple #[.int .u8 a, .int .i64 3]) = .returned (.tuple #[.int .u8 b, .int .i64 3]) := by rw [h]
theorem list_size (s : ByteArray) : s.data.toList.length = s.size := by simp
set_option maxHeartbeats 1000000 in
theorem escaped_any (s : ByteArray) (w : World) (hs : s.size ≤ 9223372036854775807) :
    Calls Tryd.prog 33 #[.string s] w fun e w' => e = .returned (escT s.data.toList) ∧ w = w' := by
  rcases hl : s.data.toList with _ | ⟨c, l⟩
  · have hb : s.toList.isEmpty = true := by rw [ByteArray.toList_eq, hl]; rfl
    clear hl
    go_enter Tryd.func33, Tryd.ntmps33
    go_wp2_with fail
    go_ret2
    exact ⟨rfl, rfl⟩
  · have hb : s.toList.isEmpty = false := by rw [ByteArray.toList_eq, hl]; rfl
    have i0 : ∀ w', (Instr.index 9 (.string s) (.int .i64 0)).run Tryd.prog w' = .ok (.int .u8 c.toNat) w' := fun w' => run_byte w' s 0 c (by rw [hl]; rfl)
    have hsz := list_size s
    rw [hl, List.length_cons] at hsz
    have hlt := c.toNat_lt
    by_cases h34 : c.toNat = 34
    · have he : escT (c :: l) = .tuple #[.int .u8 34, .int .i64 1] := by
        obtain rfl : c = 34 := UInt8.toNat_inj.1 h34
        rfl
      rw [he]
      rw [h34] at i0
      clear he hl h34 hsz hlt
      go_enter Tryd.func33, Tryd.ntmps33
      go_wp2_with fail
      go_ret2
      exact ⟨rfl, rfl⟩
    by_cases h92 : c.toNat = 92
    · have he : escT (c :: l) = .tuple #[.int .u8 92, .int .i64 1] := by
        obtain rfl : c = 92 := UInt8.toNat_inj.1 h92
        rfl
      rw [he]
      rw [h92] at i0
      clear he hl h34 h92 hsz hlt
      go_enter Tryd.func33, Tryd.ntmps33
      go_wp2_with fail
      go_ret2
      exact ⟨rfl, rfl⟩
    by_cases h110 : c.toNat = 110
    · have he : escT (c :: l) = .tuple #[.int .u8 10, .int .i64 1] := by
        obtain rfl : c = 110 := UInt8.toNat_inj.1 h110
        rfl
      rw [he]
      rw [h110] at i0
      clear he hl h34 h92 h110 hsz hlt
      go_enter Tryd.func33, Tryd.ntmps33
      go_wp2_with fail
      go_ret2
      exact ⟨rfl, rfl⟩
    by_cases h120 : c.toNat = 120
    · obtain rfl : c = 120 := UInt8.toNat_inj.1 h120
      clear h34 h92 h110 h120 hlt
      rcases l with _ | ⟨a, _ | ⟨b, l⟩⟩
      · have t1 : (s.size : Int) < 3 := by simp at hsz; omega
        clear hl hsz
        go_enter Tryd.func33, Tryd.ntmps33
        go_wp2_with fail
        go_ret2
        exact ⟨rfl, rfl⟩
      · have t1 : (s.size : Int) < 3 := by simp at hsz; omega
        clear hl hsz
        go_enter Tryd.func33, Tryd.ntmps33
        go_wp2_with fail
        go_ret2
        exact ⟨rfl, rfl⟩
      · have t1 : ¬ (s.size : Int) < 3 := by simp at hsz; omega
        have i1 : ∀ w', (Instr.index 9 (.string s) (.int .i64 1)).run Tryd.prog w' = .ok (.int .u8 a.toNat) w' := fun w' => run_byte w' s 1 a (by rw [hl]; rfl)
        have i2 : ∀ w', (Instr.index 9 (.string s) (.int .i64 2)).run Tryd.prog w' = .ok (.int .u8 b.toNat) w' := fun w' => run_byte w' s 2 b (by rw [hl]; rfl)
        have da := digit_any a w
        have db := digit_any b w
        clear hl hsz
        have hE : Hid (escT (120 :: a :: b :: l) = match digV a, digV b with | some x, some y => .tuple #[.int .u8 (UInt8.ofNat (x * 16 + y)).toNat, .int .i64 3] | _, _ => .tuple #[.int .u8 0, .int .i64 0]) := by
          unfold Hid
          cases ha : digV a <;> cases hb : digV b <;> simp [escT, escV, ha, hb]
        replace db := Lib.hid db
        go_enter Tryd.func33, Tryd.ntmps33
        go_wp2_with fail
        refine da.mono ?_
        clear da
        rintro e w1 ⟨rfl, rfl⟩
        cases hda : digV a with
        | none =>
          rw [hda] at hE
          replace hda := Lib.hid hda
          unfold digT
          go_wp2_with fail
          refine db.out.mono ?_
          rintro e w1 ⟨rfl, rfl⟩
          cases hdb : digV b with
          | none =>
            replace hdb := Lib.hid hdb
            unfold digT
            go_wp2_with fail
            go_ret2
            exact ⟨by rw [hE.out]; rfl, rfl⟩
          | some y =>
            replace hdb := Lib.hid hdb
            unfold digT
            go_wp2_with fail
            go_ret2
            exact ⟨by rw [hE.out]; rfl, rfl⟩
        | some x =>
          have hx := digV_lt hda
          rw [hda] at hE
          replace hda := Lib.hid hda
          unfold digT
          go_wp2_with fail
          refine db.out.mono ?_
          rintro e w1 ⟨rfl, rfl⟩
          cases hdb : digV b with
          | none =>
            rw [hdb] at hE
            replace hdb := Lib.hid hdb
            unfold digT
            go_wp2_with fail
            go_ret2
            exact ⟨by rw [hE.out]; rfl, rfl⟩
          | some y =>
            have hy := digV_lt hdb
            rw [hdb] at hE
            replace hdb := Lib.hid hdb
            unfold digT
            go_wp2_with fail
            go_ret2
            exact ⟨by rw [hE.out]; exact ret_esc (or16' hx hy), rfl⟩
    · have he : escT (c :: l) = .tuple #[.int .u8 0, .int .i64 0] := by
        refine escT_none ?_
        unfold escV
        have n1 : ¬ (c = 34 ∨ c = 92) := by
          rintro (rfl | rfl)
          · exact h34 rfl
          · exact h92 rfl
        have n2 : c ≠ 110 := by rintro rfl; exact h110 rfl
        have n3 : c ≠ 120 := by rintro rfl; exact h120 rfl
        simp only [n1, n2, n3, if_false]
      rw [he]
      have b1 : ((c.toNat : Int) == 34) = false := by rw [beq_eq_false_iff_ne]; omega
      have b2 : ((c.toNat : Int) == 92) = false := by rw [beq_eq_false_iff_ne]; omega
      have b3 : ((c.toNat : Int) == 110) = false := by rw [beq_eq_false_iff_ne]; omega
      have b4 : ((c.toNat : Int) == 120) = false := by rw [beq_eq_false_iff_ne]; omega
      clear he hl h34 h92 h110 h120 hsz hlt
      go_enter Tryd.func33, Tryd.ntmps33
      go_wp2_with fail
      go_ret2
      exact ⟨rfl, rfl⟩
end Go.Proofs.YtjielocmjfmadaaDoor
