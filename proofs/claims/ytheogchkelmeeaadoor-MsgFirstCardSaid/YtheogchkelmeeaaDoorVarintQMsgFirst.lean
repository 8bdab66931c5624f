/- bits.Varint, penstockref3.Varint: what they answer. Condition: the number is one of 64 bits. -/
import Derived.Test.YtheogchkelmeeaaDoorM0MsgFirst
import Derived.Test.YtheogchkelmeeaaDoorM3MsgFirst
import Derived.Laws.Bits64b
namespace Go.Proofs.YtheogchkelmeeaaDoor
open Go.RowKit

theorem vF_lo {n v : Nat} (h : v < 128) : vF (n + 1) v = [UInt8.ofNat v] := if_pos h
theorem vF_hi {n v : Nat} (h : ¬ v < 128) : vF (n + 1) v = UInt8.ofNat (v % 128 + 128) :: vF n (v / 128) := if_neg h
set_option maxRecDepth 100000 in
theorem or128 : ∀ X : Fin 256, bits .or .u8 ((X.val : Nat) : Int) 128 = ((X.val % 128 + 128 : Nat) : Int) := by decide
theorem and127 (z : Nat) (h : z < 2 ^ 64) : bits .and .u64 (z : Int) 127 = ((z % 128 : Nat) : Int) := by
  have := bits_and_u64_nat z 127 (by simpa using h) (by omega)
  rw [show ((127 : Nat) : Int) = 127 from rfl] at this
  rw [this, show (127 : Nat) = 2 ^ 7 - 1 from rfl, Nat.and_two_pow_sub_one_eq_mod]
theorem or_128 (p : Nat) (h : p < 128) : bits .or .u64 (p : Int) 128 = ((p + 128 : Nat) : Int) := by
  have := bits_or_u64_nat p 128 (by omega) (by omega)
  rw [show ((128 : Nat) : Int) = 128 from rfl] at this
  rw [this]
  congr 1
  have h2 : 128 + p = 128 ||| p := Nat.two_pow_add_eq_or_of_lt (i := 7) (b := p) h 1
  rw [Nat.or_comm, ← h2, Nat.add_comm]
theorem wrap_u8 (z : Nat) : IntKind.u8.wrap (z : Int) = ((z % 256 : Nat) : Int) := by
  unfold IntKind.wrap
  simp [IntKind.signed, IntKind.bits]
/-- What a number is written as: a row of bytes that is new. -/
def RetBytes (w : World) (l : List UInt8) (e : Ending) (w' : World) : Prop := ∃ A c, e = .returned (.slice A l.length c) ∧ OwnL 5 1 byteC w' w.heap.size (.slice A l.length c) l ∧ G w w'
set_option maxRecDepth 100000 in
set_option maxHeartbeats 1000000 in
theorem varint_any (v0 : Nat) (w : World) (h0 : v0 < 2 ^ 64) : Calls Tryd.prog 90 #[.int .u64 v0] w (RetBytes w (vL v0)) := by
  replace h0 := Lib.hid h0
  go_enter Tryd.func90, Tryd.ntmps90
  go_wp2_with fail
  go_loopw [0, 2] (fun x v wr => ∃ (z : Nat) (acc : List UInt8) (A8 : Option Addr) (n8 c8 : Nat), x = .int .u64 z ∧ v = .slice A8 n8 c8 ∧ z < 2 ^ 64 ∧ acc.length ≤ 9 ∧ Hid (z * 2 ^ (7 * acc.length) ≤ v0) ∧ Hid (vL v0 = acc ++ vF (10 - acc.length) z) ∧ Hid (OwnL 5 1 byteC wr w.heap.size (.slice A8 n8 c8) acc) ∧ G w wr) (fun x _ _ => (intOf x).toNat)
  case atStart => exact ⟨v0, [], none, 0, 0, rfl, rfl, h0.out, by simp, by simp [Hid], rfl, OwnL.nil, G.refl _⟩
  case round =>
    obtain ⟨z, acc, A8, n8, c8, rfl, rfl, hz, hj, hpw, hv, hown, hg⟩ := hrel
    obtain ⟨m, hm⟩ : ∃ m, 10 - acc.length = m + 1 := ⟨9 - acc.length, by omega⟩
    have hown1 := hown.out
    clear hown
    by_cases hlt : z < 128
    · have hvl : vL v0 = acc ++ [UInt8.ofNat z] := by rw [hv.out, hm, vF_lo hlt]
      have t1 : ¬ (127 : Int) < (z : Int) := by omega
      have t2 : ¬ (128 : Int) ≤ (z : Int) := by omega
      have hw8 : IntKind.u8.wrap (z : Int) = (z : Int) := by rw [wrap_u8]; omega
      have hb : ((UInt8.ofNat z).toNat : Int) = (z : Int) := by rw [nat_u8 (by omega)]
      obtain ⟨B, hB⟩ : ∃ B, UInt8.ofNat z = B := ⟨_, rfl⟩
      rw [hB] at hvl hb
      replace hvl := Lib.hid hvl
      replace hB := Lib.hid hB
      replace hm := Lib.hid hm
      replace hb := hb.symm
      go_wp2_with (at_builtin; refine wpList_append_but byte_elem _ rfl (.tmp 13) (.tmp 16) rfl w.heap.size _ acc rfl (hown1.g (G.new _ _)) (wr.heap.size + 1) (some ⟨wr.heap.size, 0, none⟩) 1 [B] rfl (by intro h; cases h) (Sl.of_blk byteC_len _ (blk_new _ _ _) (by simp [byteC]) (by omega)) (by simp; omega) (by simp; omega) (by have := hg.size; simp; omega) ?_; intro v' w2 hown2 hkeep hbut)
      have hg2 : G w w2 := hkeep.g (hg.alloc _)
      replace hown2 := Lib.hid hown2
      clear hkeep hbut
      obtain ⟨A2, c2, e2, _, _, _⟩ := OwnL.sl byteC_len hown2.out
      subst e2
      go_wp2_with fail
      go_ret
      exact ⟨A2, c2, by rw [hvl.out]; rfl, by rw [hvl.out]; exact hown2.out, hg2⟩
    · have hvn : vL v0 = acc ++ UInt8.ofNat (z % 128 + 128) :: vF m (z / 128) := by rw [hv.out, hm, vF_hi hlt]
      have hjn : acc.length ≤ 8 := by
        rcases Nat.lt_or_ge acc.length 9 with h | h
        · omega
        · exfalso
          have h9 : acc.length = 9 := by omega
          have h1 := hpw.out
          have h3 := h0.out
          rw [h9] at h1
          have h2 : 128 * 2 ^ (7 * 9) ≤ z * 2 ^ (7 * 9) := Nat.mul_le_mul_right _ (by omega)
          omega
      obtain ⟨Y, hY⟩ : ∃ Y, z % 128 + 128 = Y := ⟨_, rfl⟩
      obtain ⟨Q, hQ⟩ : ∃ Q, z / 128 = Q := ⟨_, rfl⟩
      obtain ⟨X, hX⟩ : ∃ X, z % 256 = X := ⟨_, rfl⟩
      obtain ⟨P, hP⟩ : ∃ P, z % 128 = P := ⟨_, rfl⟩
      rw [hY, hQ] at hvn
      have hv2 : vL v0 = (acc ++ [UInt8.ofNat Y]) ++ vF (10 - (acc ++ [UInt8.ofNat Y]).length) Q := by
        rw [hvn, List.length_append, List.length_singleton, show 10 - (acc.length + 1) = m by omega]
        simp
      have hpw2 : Q * 2 ^ (7 * (acc ++ [UInt8.ofNat Y]).length) ≤ v0 := by
        rw [List.length_append, List.length_singleton, pow_step, ← Nat.mul_assoc]
        exact Nat.le_trans (Nat.mul_le_mul_right _ (by omega)) hpw.out
      have hsh : (z : Int) / 128 = (Q : Int) := by omega
      have hw8 : IntKind.u8.wrap (z : Int) = (X : Int) := by rw [wrap_u8, hX]
      have hor : bits .or .u8 (X : Int) 128 = (Y : Int) := by
        have h1 := or128 ⟨X, by omega⟩
        dsimp only at h1
        rw [h1]
        omega
      have hand : bits .and .u64 (z : Int) 127 = (P : Int) := by rw [and127 z hz, hP]
      have hor2 : bits .or .u64 (P : Int) 128 = (Y : Int) := by rw [or_128 P (by omega)]; omega
      have hwY : IntKind.u8.wrap (Y : Int) = (Y : Int) := by rw [wrap_u8]; omega
      have hQz : Q < z := by omega
      have hb : ((UInt8.ofNat Y).toNat : Int) = (Y : Int) := by rw [nat_u8 (by omega)]
      have t1 : (127 : Int) < (z : Int) := by omega
      have t2 : (128 : Int) ≤ (z : Int) := by omega
      replace hpw := Lib.hid hpw2
      replace hv2 := Lib.hid hv2
      replace hY := Lib.hid hY
      replace hQ := Lib.hid hQ
      replace hX := Lib.hid hX
      replace hP := Lib.hid hP
      replace hm := Lib.hid hm
      clear hvn hpw2 hv
      go_wp2_with (at_builtin; refine wpList_append_but byte_elem _ rfl (.tmp 5) (.tmp 9) rfl w.heap.size _ acc rfl (hown1.g (G.new _ _)) (wr.heap.size + 1) (some ⟨wr.heap.size, 0, none⟩) 1 [UInt8.ofNat Y] rfl (by intro h; cases h) (Sl.of_blk byteC_len _ (blk_new _ _ _) (by simp only [List.flatMap_cons, List.flatMap_nil, byteC, hb]; rfl) (by omega)) (by simp; omega) (by simp; omega) (by have := hg.size; simp; omega) ?_; intro v' w2 hown2 hkeep hbut)
      have hg2 : G w w2 := hkeep.g (hg.alloc _)
      replace hown2 := Lib.hid hown2
      clear hkeep hbut
      obtain ⟨A2, c2, e2, _, _, _⟩ := OwnL.sl byteC_len hown2.out
      subst e2
      go_wp2_with fail
      go_roundw
      case rel => exact ⟨Q, acc ++ [UInt8.ofNat Y], A2, _, c2, rfl, rfl, by omega, by rw [List.length_append, List.length_singleton]; omega, hpw.out, hv2.out, hown2, hg2⟩
      case measure => (simp [intOf] <;> omega)
set_option maxRecDepth 100000 in
set_option maxHeartbeats 1000000 in
theorem refVarint_any (v0 : Nat) (w : World) (h0 : v0 < 2 ^ 64) : Calls Tryd.prog 70 #[.int .u64 v0] w (RetBytes w (vL v0)) := by
  replace h0 := Lib.hid h0
  go_enter Tryd.func70, Tryd.ntmps70
  go_wp2_with fail
  go_loopw [0, 3] (fun x v wr => ∃ (z : Nat) (acc : List UInt8) (A8 : Option Addr) (n8 c8 : Nat), x = .int .u64 z ∧ v = .slice A8 n8 c8 ∧ z < 2 ^ 64 ∧ acc.length ≤ 9 ∧ Hid (z * 2 ^ (7 * acc.length) ≤ v0) ∧ Hid (vL v0 = acc ++ vF (10 - acc.length) z) ∧ Hid (OwnL 5 1 byteC wr w.heap.size (.slice A8 n8 c8) acc) ∧ G w wr) (fun x _ _ => (intOf x).toNat)
  case atStart => exact ⟨v0, [], none, 0, 0, rfl, rfl, h0.out, by simp, by simp [Hid], rfl, OwnL.nil, G.refl _⟩
  case round =>
    obtain ⟨z, acc, A8, n8, c8, rfl, rfl, hz, hj, hpw, hv, hown, hg⟩ := hrel
    obtain ⟨m, hm⟩ : ∃ m, 10 - acc.length = m + 1 := ⟨9 - acc.length, by omega⟩
    have hown1 := hown.out
    clear hown
    by_cases hlt : z < 128
    · have hvl : vL v0 = acc ++ [UInt8.ofNat z] := by rw [hv.out, hm, vF_lo hlt]
      have t1 : ¬ (127 : Int) < (z : Int) := by omega
      have t2 : ¬ (128 : Int) ≤ (z : Int) := by omega
      have hw8 : IntKind.u8.wrap (z : Int) = (z : Int) := by rw [wrap_u8]; omega
      have hb : ((UInt8.ofNat z).toNat : Int) = (z : Int) := by rw [nat_u8 (by omega)]
      obtain ⟨B, hB⟩ : ∃ B, UInt8.ofNat z = B := ⟨_, rfl⟩
      rw [hB] at hvl hb
      replace hvl := Lib.hid hvl
      replace hB := Lib.hid hB
      replace hm := Lib.hid hm
      replace hb := hb.symm
      go_wp2_with (at_builtin; refine wpList_append_but byte_elem _ rfl (.tmp 15) (.tmp 18) rfl w.heap.size _ acc rfl (hown1.g (G.new _ _)) (wr.heap.size + 1) (some ⟨wr.heap.size, 0, none⟩) 1 [B] rfl (by intro h; cases h) (Sl.of_blk byteC_len _ (blk_new _ _ _) (by simp [byteC]) (by omega)) (by simp; omega) (by simp; omega) (by have := hg.size; simp; omega) ?_; intro v' w2 hown2 hkeep hbut)
      have hg2 : G w w2 := hkeep.g (hg.alloc _)
      replace hown2 := Lib.hid hown2
      clear hkeep hbut
      obtain ⟨A2, c2, e2, _, _, _⟩ := OwnL.sl byteC_len hown2.out
      subst e2
      go_wp2_with fail
      go_ret
      exact ⟨A2, c2, by rw [hvl.out]; rfl, by rw [hvl.out]; exact hown2.out, hg2⟩
    · have hvn : vL v0 = acc ++ UInt8.ofNat (z % 128 + 128) :: vF m (z / 128) := by rw [hv.out, hm, vF_hi hlt]
      have hjn : acc.length ≤ 8 := by
        rcases Nat.lt_or_ge acc.length 9 with h | h
        · omega
        · exfalso
          have h9 : acc.length = 9 := by omega
          have h1 := hpw.out
          have h3 := h0.out
          rw [h9] at h1
          have h2 : 128 * 2 ^ (7 * 9) ≤ z * 2 ^ (7 * 9) := Nat.mul_le_mul_right _ (by omega)
          omega
      obtain ⟨Y, hY⟩ : ∃ Y, z % 128 + 128 = Y := ⟨_, rfl⟩
      obtain ⟨Q, hQ⟩ : ∃ Q, z / 128 = Q := ⟨_, rfl⟩
      obtain ⟨X, hX⟩ : ∃ X, z % 256 = X := ⟨_, rfl⟩
      obtain ⟨P, hP⟩ : ∃ P, z % 128 = P := ⟨_, rfl⟩
      rw [hY, hQ] at hvn
      have hv2 : vL v0 = (acc ++ [UInt8.ofNat Y]) ++ vF (10 - (acc ++ [UInt8.ofNat Y]).length) Q := by
        rw [hvn, List.length_append, List.length_singleton, show 10 - (acc.length + 1) = m by omega]
        simp
      have hpw2 : Q * 2 ^ (7 * (acc ++ [UInt8.ofNat Y]).length) ≤ v0 := by
        rw [List.length_append, List.length_singleton, pow_step, ← Nat.mul_assoc]
        exact Nat.le_trans (Nat.mul_le_mul_right _ (by omega)) hpw.out
      have hsh : (z : Int) / 128 = (Q : Int) := by omega
      have hw8 : IntKind.u8.wrap (z : Int) = (X : Int) := by rw [wrap_u8, hX]
      have hor : bits .or .u8 (X : Int) 128 = (Y : Int) := by
        have h1 := or128 ⟨X, by omega⟩
        dsimp only at h1
        rw [h1]
        omega
      have hand : bits .and .u64 (z : Int) 127 = (P : Int) := by rw [and127 z hz, hP]
      have hor2 : bits .or .u64 (P : Int) 128 = (Y : Int) := by rw [or_128 P (by omega)]; omega
      have hwY : IntKind.u8.wrap (Y : Int) = (Y : Int) := by rw [wrap_u8]; omega
      have hQz : Q < z := by omega
      have hb : ((UInt8.ofNat Y).toNat : Int) = (Y : Int) := by rw [nat_u8 (by omega)]
      have t1 : (127 : Int) < (z : Int) := by omega
      have t2 : (128 : Int) ≤ (z : Int) := by omega
      replace hpw := Lib.hid hpw2
      replace hv2 := Lib.hid hv2
      replace hY := Lib.hid hY
      replace hQ := Lib.hid hQ
      replace hX := Lib.hid hX
      replace hP := Lib.hid hP
      replace hm := Lib.hid hm
      clear hvn hpw2 hv
      go_wp2_with (at_builtin; refine wpList_append_but byte_elem _ rfl (.tmp 6) (.tmp 11) rfl w.heap.size _ acc rfl (hown1.g (G.new _ _)) (wr.heap.size + 1) (some ⟨wr.heap.size, 0, none⟩) 1 [UInt8.ofNat Y] rfl (by intro h; cases h) (Sl.of_blk byteC_len _ (blk_new _ _ _) (by simp only [List.flatMap_cons, List.flatMap_nil, byteC, hb]; rfl) (by omega)) (by simp; omega) (by simp; omega) (by have := hg.size; simp; omega) ?_; intro v' w2 hown2 hkeep hbut)
      have hg2 : G w w2 := hkeep.g (hg.alloc _)
      replace hown2 := Lib.hid hown2
      clear hkeep hbut
      obtain ⟨A2, c2, e2, _, _, _⟩ := OwnL.sl byteC_len hown2.out
      subst e2
      go_wp2_with fail
      go_roundw
      case rel => exact ⟨Q, acc ++ [UInt8.ofNat Y], A2, _, c2, rfl, rfl, by omega, by rw [List.length_append, List.length_singleton]; omega, hpw.out, hv2.out, hown2, hg2⟩
      case measure => (simp [intOf] <;> omega)
end Go.Proofs.YtheogchkelmeeaaDoor
