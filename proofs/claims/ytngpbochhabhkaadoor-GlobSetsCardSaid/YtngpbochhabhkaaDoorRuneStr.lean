/- A rune as a text: what it is decoded as. Plain mathematics, no program. No condition. -/
import Derived.Test.YtngpbochhabhkaaDoorCkLaw
namespace Go.Proofs.YtngpbochhabhkaaDoor
open Go.Lib

/-- A number that is a rune. -/
def RuneN (r : Nat) : Prop := r < 55296 ∨ (57344 ≤ r ∧ r ≤ 1114111)
/-- A rune's bytes. -/
def encL (r : Nat) : List UInt8 :=
  if r < 128 then [UInt8.ofNat r] else if r < 2048 then [UInt8.ofNat (192 + r / 64), UInt8.ofNat (128 + r % 64)]
  else if r < 65536 then [UInt8.ofNat (224 + r / 4096), UInt8.ofNat (128 + r / 64 % 64), UInt8.ofNat (128 + r % 64)]
  else [UInt8.ofNat (240 + r / 262144), UInt8.ofNat (128 + r / 4096 % 64), UInt8.ofNat (128 + r / 64 % 64), UInt8.ofNat (128 + r % 64)]
theorem enc_list {r : Nat} (h : RuneN r) : (Utf8.encode (r : Int)).data.toList = encL r := by
  have hv : Utf8.valid (r : Int) = true := by
    unfold Utf8.valid
    unfold RuneN at h
    simp only [Bool.or_eq_true, Bool.and_eq_true, decide_eq_true_eq]
    omega
  unfold Utf8.encode encL
  simp only [hv, if_true, Int.toNat_natCast]
  split
  · rfl
  · split
    · rfl
    · split
      · rfl
      · rfl
theorem nat_of {n : Nat} (h : n < 256) : (UInt8.ofNat n).toNat = n := by rw [UInt8.toNat_ofNat']; omega
set_option maxRecDepth 100000 in
theorem decode_enc {r : Nat} (h : RuneN r) : decodeL (encL r) = (r, (encL r).length) := by
  unfold RuneN at h
  rw [decodeL_N]
  unfold encL
  split
  · simp only [List.getD_cons_zero, List.length_cons, List.length_nil]
    rw [nat_of (by omega), decodeN_ascii _ _ _ _ _ (by assumption)]
  · split
    · simp only [List.getD_cons_zero, List.getD_cons_succ, List.length_cons, List.length_nil]
      rw [nat_of (by omega), nat_of (by omega), dec2 (by omega) (by omega) (by omega) (by omega)]
      congr 1
      omega
    · split
      · simp only [List.getD_cons_zero, List.getD_cons_succ, List.length_cons, List.length_nil]
        rw [nat_of (by omega), nat_of (by omega), nat_of (by omega), dec3 (by omega) (by omega) (by omega) (by omega) (by omega) (by omega)]
        congr 1
        omega
      · simp only [List.getD_cons_zero, List.getD_cons_succ, List.length_cons, List.length_nil]
        rw [nat_of (by omega), nat_of (by omega), nat_of (by omega), nat_of (by omega), dec4 (by omega) (by omega) (by omega) (by omega) (by omega) (by omega) (by omega)]
        congr 1
        omega
theorem encL_pos (r : Nat) : encL r ≠ [] := by
  unfold encL
  repeat' split
  all_goals simp
theorem cks_enc {r : Nat} (h : RuneN r) : cks (encL r) = [⟨encL r, r⟩] := by
  rw [cks_step (encL_pos r), decode_enc h]
  dsimp only
  rw [List.take_length, List.drop_length, cks_nil]
theorem bad_enc {r : Nat} (_h : RuneN r) : (⟨encL r, r⟩ : Ck).bad = false := by
  unfold Ck.bad
  refine decide_eq_false fun hb => ?_
  have h1 := hb.1
  have h2 := hb.2
  dsimp only at h1 h2
  subst h1
  unfold encL at h2
  simp at h2
theorem good_enc {r : Nat} (h : RuneN r) : goodL (encL r) := fun c hc => by
  rw [cks_enc h, List.mem_singleton] at hc
  rw [hc, bad_enc h]
theorem enc_size {r : Nat} (h : RuneN r) : (Utf8.encode (r : Int)).size ≤ 4 := by
  have h1 := congrArg List.length (enc_list h)
  rw [Array.length_toList] at h1
  have h2 : (encL r).length ≤ 4 := by
    unfold encL
    repeat' split
    all_goals simp
  have key : ∀ b : ByteArray, b.size = b.data.size := fun _ => rfl
  have h3 := key (Utf8.encode (r : Int))
  omega
end Go.Proofs.YtngpbochhabhkaaDoor
