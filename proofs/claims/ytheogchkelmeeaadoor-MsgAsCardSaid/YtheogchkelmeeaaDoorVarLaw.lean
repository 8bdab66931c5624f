/- Numbers and texts as bytes, and read again. Plain mathematics, no program. No condition. -/
import Derived.Test.YtheogchkelmeeaaDoorBase
namespace Go.Proofs.YtheogchkelmeeaaDoor

/-- A number in groups of seven digits. -/
def vF : Nat → Nat → List UInt8
  | 0, _ => []
  | n + 1, v => if v < 128 then [UInt8.ofNat v] else UInt8.ofNat (v % 128 + 128) :: vF n (v / 128)
def vL (v : Nat) : List UInt8 := vF 10 v
/-- The number that bytes begin with: i groups were read, acc is what they say. -/
def uF (i acc : Nat) : List UInt8 → Option (Nat × Nat)
  | [] => none
  | x :: l => if 10 ≤ i then none else if 127 < x.toNat then uF (i + 1) (acc + (x.toNat - 128) * 2 ^ (7 * i)) l
    else if (i = 9 ∧ 1 < x.toNat) ∨ (0 < i ∧ x.toNat = 0) then none else some (acc + x.toNat * 2 ^ (7 * i), i + 1)
def uL (l : List UInt8) : Option (Nat × Nat) := uF 0 0 l
theorem nat_u8 {n : Nat} (h : n < 256) : (UInt8.ofNat n).toNat = n := by rw [UInt8.toNat_ofNat']; omega
theorem vF_len : ∀ n v, (vF n v).length ≤ n
  | 0, _ => Nat.le_refl _
  | n + 1, v => by
    unfold vF
    split
    · simp
    · have := vF_len n (v / 128)
      simp only [List.length_cons]
      omega
theorem vL_len (v : Nat) : (vL v).length ≤ 10 := vF_len 10 v
theorem vL_pos (v : Nat) : 0 < (vL v).length := by
  unfold vL vF
  split <;> simp
theorem pow_step (i : Nat) : 2 ^ (7 * (i + 1)) = 128 * 2 ^ (7 * i) := by
  rw [Nat.mul_add, Nat.mul_one, Nat.pow_add, Nat.mul_comm]
/-- What was written is read again, whatever stands behind. -/
theorem uF_vF : ∀ (n i acc v : Nat) (q : List UInt8), i + n = 10 → (i = 0 ∨ 0 < v) → v * 2 ^ (7 * i) < 2 ^ 64 → 0 < n → uF i acc (vF n v ++ q) = some (acc + v * 2 ^ (7 * i), i + (vF n v).length)
  | 0, _, _, _, _, _, _, _, h => by omega
  | n + 1, i, acc, v, q, hi, hv, hb, _ => by
    unfold vF
    by_cases h : v < 128
    · rw [if_pos h]
      show uF i acc (UInt8.ofNat v :: q) = _
      rw [uF, nat_u8 (by omega), if_neg (by omega), if_neg (by omega)]
      have hno : ¬ ((i = 9 ∧ 1 < v) ∨ (0 < i ∧ v = 0)) := by
        rintro (⟨rfl, h1⟩ | ⟨h1, h2⟩)
        · have : 2 * 2 ^ (7 * 9) ≤ v * 2 ^ (7 * 9) := Nat.mul_le_mul_right _ h1
          omega
        · omega
      rw [if_neg hno]
      rfl
    · rw [if_neg h]
      show uF i acc (UInt8.ofNat (v % 128 + 128) :: (vF n (v / 128) ++ q)) = _
      rw [uF, nat_u8 (by omega), if_neg (by omega), if_pos (by omega)]
      have hn : 0 < n := by
        rcases Nat.eq_zero_or_pos n with h0 | h0
        · subst h0
          have hi9 : i = 9 := by omega
          subst hi9
          have : 128 * 2 ^ (7 * 9) ≤ v * 2 ^ (7 * 9) := Nat.mul_le_mul_right _ (by omega)
          omega
        · exact h0
      have hb2 : v / 128 * 2 ^ (7 * (i + 1)) ≤ v * 2 ^ (7 * i) := by
        rw [pow_step, ← Nat.mul_assoc]
        exact Nat.mul_le_mul_right _ (Nat.div_mul_le_self v 128)
      rw [uF_vF n (i + 1) _ (v / 128) q (by omega) (.inr (by omega)) (by omega) hn]
      have e : acc + (v % 128 + 128 - 128) * 2 ^ (7 * i) + v / 128 * 2 ^ (7 * (i + 1)) = acc + v * 2 ^ (7 * i) := by
        rw [pow_step, ← Nat.mul_assoc, Nat.add_sub_cancel, Nat.add_assoc, ← Nat.add_mul]
        congr 2
        omega
      rw [e, List.length_cons, Nat.add_assoc i 1, Nat.add_comm 1]
theorem uL_vL {v : Nat} (h : v < 2 ^ 64) (q : List UInt8) : uL (vL v ++ q) = some (v, (vL v).length) := by
  have := uF_vF 10 0 0 v q rfl (.inl rfl) (by simpa using h) (by omega)
  simpa [uL, vL] using this
/-- What is read does not hang on what stands behind. -/
theorem uF_app : ∀ (l q : List UInt8) (i acc : Nat) (r : Nat × Nat), uF i acc l = some r → uF i acc (l ++ q) = some r
  | [], _, _, _, _, h => by simp [uF] at h
  | x :: l, q, i, acc, r, h => by
    rw [List.cons_append]
    rw [uF] at h ⊢
    split
    · rename_i h1; rw [if_pos h1] at h; exact h
    · rename_i h1
      rw [if_neg h1] at h
      split
      · rename_i h2; rw [if_pos h2] at h; exact uF_app l q _ _ r h
      · rename_i h2; rw [if_neg h2] at h; exact h
theorem uF_bd : ∀ (l : List UInt8) (i acc v n : Nat), uF i acc l = some (v, n) → acc < 2 ^ (7 * i) → i < n ∧ n ≤ i + l.length ∧ n ≤ 10 ∧ v < 2 ^ 64
  | [], _, _, _, _, h, _ => by simp [uF] at h
  | x :: l, i, acc, v, n, h, ha => by
    have hx := x.toNat_lt
    rw [uF] at h
    split at h
    · cases h
    · rename_i h1
      split at h
      · rename_i h2
        have hb : acc + (x.toNat - 128) * 2 ^ (7 * i) < 2 ^ (7 * (i + 1)) := by
          have h3 : (x.toNat - 128) * 2 ^ (7 * i) ≤ 127 * 2 ^ (7 * i) := Nat.mul_le_mul_right _ (by omega)
          rw [pow_step]
          omega
        obtain ⟨k1, k2, k3, k4⟩ := uF_bd l (i + 1) _ v n h hb
        simp only [List.length_cons]
        exact ⟨by omega, by omega, k3, k4⟩
      · rename_i h2
        split at h
        · cases h
        · rename_i h3
          simp only [Option.some.injEq, Prod.mk.injEq] at h
          obtain ⟨rfl, rfl⟩ := h
          rw [not_or] at h3
          simp only [List.length_cons]
          refine ⟨by omega, by omega, by omega, ?_⟩
          by_cases h9 : i = 9
          · subst h9
            have h4 : x.toNat * 2 ^ (7 * 9) ≤ 1 * 2 ^ (7 * 9) := Nat.mul_le_mul_right _ (by omega)
            omega
          · have h4 : x.toNat * 2 ^ (7 * i) ≤ 127 * 2 ^ (7 * i) := Nat.mul_le_mul_right _ (by omega)
            have h5 : 2 ^ (7 * i) ≤ 2 ^ (7 * 8) := Nat.pow_le_pow_right (by omega) (by omega)
            omega
theorem uL_bd {l : List UInt8} {v n : Nat} (h : uL l = some (v, n)) : 0 < n ∧ n ≤ l.length ∧ n ≤ 10 ∧ v < 2 ^ 64 := by
  have := uF_bd l 0 0 v n h (by simp)
  omega
theorem uL_app {l : List UInt8} {r : Nat × Nat} (q : List UInt8) (h : uL l = some r) : uL (l ++ q) = some r := uF_app l q 0 0 r h

/-! Readers: what bytes begin with, and what is left. -/
def dNum (l : List UInt8) : Option (Nat × List UInt8) :=
  match uL l with
  | some (v, n) => some (v, l.drop n)
  | none => none
def dCount (most : Nat) (l : List UInt8) : Option (Nat × List UInt8) :=
  match dNum l with
  | some (v, r) => if v ≤ most then some (v, r) else none
  | none => none
/-- A text behind its length: the text's bytes, and how many bytes both take. -/
def tL (l : List UInt8) : Option (List UInt8 × Nat) :=
  match uL l with
  | some (v, n) => if v ≤ l.length - n then some ((l.drop n).take v, n + v) else none
  | none => none
def dText (l : List UInt8) : Option (List UInt8 × List UInt8) :=
  match tL l with
  | some (s, n) => some (s, l.drop n)
  | none => none
def textL (s : List UInt8) : List UInt8 := vL s.length ++ s
theorem dNum_v {v : Nat} (h : v < 2 ^ 64) (q : List UInt8) : dNum (vL v ++ q) = some (v, q) := by
  unfold dNum
  rw [uL_vL h]
  simp
theorem dCount_v {v m : Nat} (h : v < 2 ^ 64) (hm : v ≤ m) (q : List UInt8) : dCount m (vL v ++ q) = some (v, q) := by
  unfold dCount
  rw [dNum_v h]
  simp [hm]
theorem dText_t {s : List UInt8} (h : s.length < 2 ^ 64) (q : List UInt8) : dText (textL s ++ q) = some (s, q) := by
  unfold dText tL textL
  rw [List.append_assoc, uL_vL h]
  have e : s.length ≤ (vL s.length ++ (s ++ q)).length - (vL s.length).length := by simp
  dsimp only
  rw [if_pos e]
  dsimp only
  rw [← List.drop_drop, List.drop_left, List.take_left, List.drop_left]
theorem dNum_app {l r : List UInt8} {v : Nat} (q : List UInt8) (h : dNum l = some (v, r)) : dNum (l ++ q) = some (v, r ++ q) := by
  unfold dNum at *
  cases hu : uL l with
  | none => rw [hu] at h; cases h
  | some x =>
    obtain ⟨v', n⟩ := x
    rw [hu] at h
    rw [uL_app q hu]
    simp only [Option.some.injEq, Prod.mk.injEq] at h ⊢
    obtain ⟨rfl, rfl⟩ := h
    exact ⟨rfl, List.drop_append_of_le_length (uL_bd hu).2.1⟩
theorem dCount_app {m : Nat} {l r : List UInt8} {v : Nat} (q : List UInt8) (h : dCount m l = some (v, r)) : dCount m (l ++ q) = some (v, r ++ q) := by
  unfold dCount at *
  cases hd : dNum l with
  | none => rw [hd] at h; cases h
  | some x =>
    obtain ⟨v', r'⟩ := x
    rw [hd] at h
    rw [dNum_app q hd]
    simp only at h ⊢
    split at h
    · rename_i hm
      rw [if_pos hm]
      simp only [Option.some.injEq, Prod.mk.injEq] at h ⊢
      exact ⟨h.1, by rw [h.2]⟩
    · cases h
theorem tL_bd {l s : List UInt8} {n : Nat} (h : tL l = some (s, n)) : 0 < n ∧ n ≤ l.length ∧ s.length < n := by
  unfold tL at h
  cases hu : uL l with
  | none => rw [hu] at h; cases h
  | some x =>
    obtain ⟨v, k⟩ := x
    rw [hu] at h
    simp only at h
    have hb := uL_bd hu
    split at h
    · rename_i hv
      simp only [Option.some.injEq, Prod.mk.injEq] at h
      obtain ⟨rfl, rfl⟩ := h
      rw [List.length_take, List.length_drop]
      omega
    · cases h
theorem dText_app {l r s : List UInt8} (q : List UInt8) (h : dText l = some (s, r)) : dText (l ++ q) = some (s, r ++ q) := by
  unfold dText at *
  cases ht : tL l with
  | none => rw [ht] at h; cases h
  | some x =>
    obtain ⟨s', n⟩ := x
    rw [ht] at h
    simp only [Option.some.injEq, Prod.mk.injEq] at h
    obtain ⟨rfl, rfl⟩ := h
    have hb := tL_bd ht
    have h2 : tL (l ++ q) = some (s', n) := by
      unfold tL at *
      cases hu : uL l with
      | none => rw [hu] at ht; cases ht
      | some x =>
        obtain ⟨v, k⟩ := x
        rw [hu] at ht
        rw [uL_app q hu]
        have hk := uL_bd hu
        simp only at ht ⊢
        split at ht
        · rename_i hv
          rw [if_pos (by rw [List.length_append]; omega)]
          simp only [Option.some.injEq, Prod.mk.injEq] at ht ⊢
          obtain ⟨rfl, rfl⟩ := ht
          refine ⟨?_, rfl⟩
          rw [List.drop_append_of_le_length hk.2.1, List.take_append_of_le_length (by rw [List.length_drop]; omega)]
        · cases ht
    rw [h2]
    simp only [Option.some.injEq, Prod.mk.injEq, true_and]
    exact List.drop_append_of_le_length hb.2.1
/-- A reader that moves on, and that does not look beyond what it takes. -/
structure Rd {α : Type} (d : List UInt8 → Option (α × List UInt8)) : Prop where
  app : ∀ (l r q : List UInt8) (x : α), d l = some (x, r) → d (l ++ q) = some (x, r ++ q)
/-- Cut short, what was written is none. -/
theorem Rd.cut {α : Type} {d : List UInt8 → Option (α × List UInt8)} (hd : Rd d) {l : List UInt8} {x : α} (h : d l = some (x, [])) {k : Nat} (hk : k < l.length) : d (l.take k) = none := by
  cases hc : d (l.take k) with
  | none => rfl
  | some y =>
    obtain ⟨y, r⟩ := y
    have h1 := hd.app _ _ (l.drop k) _ hc
    rw [List.take_append_drop, h] at h1
    simp only [Option.some.injEq, Prod.mk.injEq] at h1
    have h2 := congrArg List.length h1.2
    rw [List.length_append, List.length_drop] at h2
    simp at h2
    omega
theorem rd_num : Rd dNum := ⟨fun _ _ q _ h => dNum_app q h⟩
theorem rd_count (m : Nat) : Rd (dCount m) := ⟨fun _ _ q _ h => dCount_app q h⟩
theorem rd_text : Rd dText := ⟨fun _ _ q _ h => dText_app q h⟩
end Go.Proofs.YtheogchkelmeeaaDoor
