/- A batch of so many streams, events and bytes: what it is. Plain mathematics, no program. No condition. -/
import Derived.Test.YtilfgafdkiaaaaaDoorLetters
import Derived.Test.YtilfgafdkiaaaaaDoorAscii
import Derived.Test.YtilfgafdkiaaaaaDoorBatLaw
namespace Go.Proofs.YtilfgafdkiaaaaaDoor
open Go.RowKit

theorem letter_small (k i : Nat) : (letter k i).toNat < 128 := by
  rw [letter_nat]
  omega
def datum (z k : Nat) : ByteArray := strOf (letL z k)
theorem datum_size (z k : Nat) : (datum z k).size = z := by
  unfold datum
  rw [strOf_size, letL_len]
theorem datum_valid (z k : Nat) : validB (datum z k) = true := by
  refine List.all_eq_true.2 fun c hc => ?_
  unfold datum at hc
  rw [strOf_list] at hc
  have := ascii_good (l := letL z k) (fun b hb => by
    unfold letL at hb
    obtain ⟨j, _, rfl⟩ := List.mem_map.1 hb
    exact letter_small _ _) c hc
  rw [this]
  rfl
def strm (i : Nat) : ByteArray := ⟨#[115, UInt8.ofNat (97 + i)]⟩
def dataL (z n : Nat) : List ByteArray := (List.range n).map (datum z)
def putL (z n i : Nat) : PutP := ⟨strm i, -1, dataL z n⟩
def putsL (z n m : Nat) : List PutP := (List.range m).map (putL z n)
theorem dataL_succ (z n : Nat) : dataL z n ++ [datum z n] = dataL z (n + 1) := by
  unfold dataL
  rw [List.range_succ, List.map_append]
  rfl
theorem putsL_succ (z n m : Nat) : putsL z n m ++ [putL z n m] = putsL z n (m + 1) := by
  unfold putsL
  rw [List.range_succ, List.map_append]
  rfl
theorem dataL_len (z n : Nat) : (dataL z n).length = n := by simp [dataL]
theorem putsL_len (z n m : Nat) : (putsL z n m).length = m := by simp [putsL]
theorem dataL_mem {z n : Nat} {d : ByteArray} (h : d ∈ dataL z n) : d.size = z ∧ validB d = true := by
  unfold dataL at h
  obtain ⟨k, _, rfl⟩ := List.mem_map.1 h
  exact ⟨datum_size _ _, datum_valid _ _⟩
theorem strm_name : ∀ i : Fin 10, nameB (strm i.val) = true := by decide +kernel
theorem strm_apart : ∀ m : Fin 11, apart ((List.range m.val).map strm) = true := by decide +kernel
theorem key_none : keyB ⟨#[]⟩ = true := by decide +kernel
theorem sizes_data (z n : Nat) : sizes (dataL z n) = n * z := by
  unfold sizes dataL
  rw [List.map_map]
  induction n with
  | zero => simp
  | succ n ih =>
    rw [List.range_succ, List.map_append, List.sum_append, ih, Nat.succ_mul]
    simp [datum_size]
theorem sum_puts (z n m : Nat) : ((putsL z n m).map fun p => sizes p.data).sum = m * (n * z) := by
  unfold putsL
  rw [List.map_map]
  induction m with
  | zero => simp
  | succ m ih =>
    rw [List.range_succ, List.map_append, List.sum_append, ih, Nat.succ_mul]
    simp [putL, sizes_data]
/-- What is wanted. -/
def wantN (m n z : Nat) : Nat := if m = 0 ∨ n = 0 then 1 else if 8 < m ∨ 20 < n ∨ 1000 < z ∨ 30000 < m * n * z then 2 else 0
theorem chk_want {m n z : Nat} (hm : m ≤ 10) : chkN ⟨#[]⟩ (putsL z n m) = wantN m n z := by
  unfold chkN wantN
  by_cases h0 : m = 0 ∨ n = 0
  · rw [if_pos h0]
    refine if_neg ?_
    intro h
    unfold argB at h
    simp only [Bool.and_eq_true, decide_eq_true_iff, List.all_eq_true] at h
    obtain ⟨⟨⟨_, h1⟩, h2⟩, _⟩ := h
    rcases h0 with rfl | rfl
    · exact h1 rfl
    · rcases Nat.eq_zero_or_pos m with rfl | hp
      · exact h1 rfl
      · have h3 := h2 (putL z 0 0) (List.mem_map.2 ⟨0, List.mem_range.2 hp, rfl⟩)
        rw [putOk_iff] at h3
        exact h3.2.2.1 rfl
  · rw [if_neg h0]
    have harg : argB ⟨#[]⟩ (putsL z n m) = true := by
      unfold argB
      simp only [Bool.and_eq_true, decide_eq_true_iff, List.all_eq_true]
      refine ⟨⟨⟨key_none, fun h => ?_⟩, fun p hp => ?_⟩, ?_⟩
      · have := congrArg List.length h
        rw [putsL_len] at this
        simp at this
        omega
      · obtain ⟨i, hi, rfl⟩ := List.mem_map.1 hp
        have hi := List.mem_range.1 hi
        rw [putOk_iff]
        refine ⟨strm_name ⟨i, by omega⟩, by simp [putL], fun h => ?_, ?_⟩
        · have := congrArg List.length h
          simp only [putL, dataL_len] at this
          simp at this
          omega
        · rw [List.all_eq_true]
          exact fun d hd => (dataL_mem hd).2
      · have := strm_apart ⟨m, by omega⟩
        unfold putsL
        rw [List.map_map]
        exact this
    rw [if_pos harg]
    have hbig : bigB (putsL z n m) = true ↔ (8 < m ∨ 20 < n ∨ 1000 < z ∨ 30000 < m * n * z) := by
      unfold bigB
      simp only [Bool.or_eq_true, decide_eq_true_iff, List.any_eq_true]
      rw [putsL_len, sum_puts, Nat.mul_assoc]
      constructor
      · rintro ((h | ⟨p, hp, h⟩) | h)
        · exact .inl h
        · obtain ⟨i, hi, rfl⟩ := List.mem_map.1 hp
          unfold putBig at h
          simp only [Bool.or_eq_true, decide_eq_true_iff, List.any_eq_true] at h
          rcases h with h | ⟨d, hd, h⟩
          · simp only [putL, dataL_len] at h
            exact .inr (.inl h)
          · have := (dataL_mem (z := z) (n := n) hd).1
            exact .inr (.inr (.inl (by omega)))
        · exact .inr (.inr (.inr h))
      · have hp : putL z n 0 ∈ putsL z n m := List.mem_map.2 ⟨0, List.mem_range.2 (by omega), rfl⟩
        rintro (h | h | h | h)
        · exact .inl (.inl h)
        · refine .inl (.inr ⟨_, hp, ?_⟩)
          unfold putBig
          simp only [Bool.or_eq_true, decide_eq_true_iff]
          exact .inl (by simp only [putL, dataL_len]; exact h)
        · refine .inl (.inr ⟨_, hp, ?_⟩)
          unfold putBig
          simp only [Bool.or_eq_true, decide_eq_true_iff, List.any_eq_true]
          exact .inr ⟨datum z 0, List.mem_map.2 ⟨0, List.mem_range.2 (by omega), rfl⟩, by rw [datum_size]; exact h⟩
        · exact .inr h
    by_cases hb : 8 < m ∨ 20 < n ∨ 1000 < z ∨ 30000 < m * n * z
    · rw [if_pos hb, if_pos (hbig.2 hb)]
    · rw [if_neg hb, if_neg (fun h => hb (hbig.1 h))]
end Go.Proofs.YtilfgafdkiaaaaaDoor
