/- penstockref1.Valid, Count: what they answer. Condition: the length is at most 2^30. -/
import Derived.Test.YtheogchkelmeeaaDoorAllQMsgAs
namespace Go.Proofs.YtheogchkelmeeaaDoor
open Go.RowKit

section
variable {w w1 : World} {B : Nat} {A : Option Addr} {l : List UInt8} {k : Nat} {c : Ck}
theorem Sl.ruG (h : Sl Ru.cells 4 w1 B A (allL l (cks l).length)) (hB : B ≤ w1.heap.size) (hc : (cks l)[k]? = some c) :
    ∃ b o, A = some ⟨b, o, none⟩ ∧ b < B ∧ (∀ w', G w1 w' → w'.cell? ⟨b, o + k * 4, none⟩ = some (.int .i32 c.r)) ∧ (∀ w', G w1 w' → w'.cell? ⟨b, o + k * 4 + 1, none⟩ = some (.int .i64 (off l k)))
      ∧ (∀ w', G w1 w' → w'.cell? ⟨b, o + k * 4 + 2, none⟩ = some (.int .i64 (off l (k + 1)))) ∧ ∀ w', G w1 w' → w'.cell? ⟨b, o + k * 4 + 3, none⟩ = some (.bool c.bad) := by
  have hk : k < (cks l).length := (List.getElem?_eq_some_iff.1 hc).1
  have hx := allL_get l (cks l).length k hk
  rw [if_pos hk, rAt_eq hc, badAt_eq hc] at hx
  obtain ⟨b, o, e, hb, h2⟩ := h.get hx
  have hlt : b < w1.heap.size := by omega
  refine ⟨b, o, e, hb, fun w' hg => (hg.cell hlt).trans ?_, fun w' hg => (hg.cell hlt).trans ?_, fun w' hg => (hg.cell hlt).trans ?_, fun w' hg => (hg.cell hlt).trans ?_⟩
  · exact h2 0 _ rfl
  · exact h2 1 _ rfl
  · exact h2 2 _ rfl
  · exact h2 3 _ rfl
end
theorem validB_not {s : ByteArray} {k : Nat} {c : Ck} (h : (cks s.data.toList)[k]? = some c) (hb : c.bad = true) : validB s = false := by
  unfold validB
  rw [List.all_eq_false]
  exact ⟨c, List.mem_of_getElem? h, by rw [hb]; simp⟩
theorem validB_end {s : ByteArray} (h : ∀ (j : Nat) (c : Ck), (cks s.data.toList)[j]? = some c → c.bad = false) : validB s = true := by
  unfold validB
  rw [List.all_eq_true]
  intro c hc
  obtain ⟨j, hj⟩ := List.getElem?_of_mem hc
  rw [h j c hj]; rfl
/-- What held of the pieces ahead holds of one more. -/
theorem all_more {l : List Ck} {k : Nat} {c : Ck} {p : Ck → Prop} (h : ∀ (j : Nat) (c : Ck), j < k → l[j]? = some c → p c) (hc : l[k]? = some c) (hp : p c) : ∀ (j : Nat) (c : Ck), j < k + 1 → l[j]? = some c → p c := fun j c' hj h' => by
  rcases Nat.lt_or_ge j k with h1 | h1
  · exact h j c' h1 h'
  · obtain rfl : j = k := by omega
    rw [hc] at h'
    cases h'
    exact hp
set_option maxHeartbeats 1000000 in
theorem refValid_any (s : ByteArray) (w : World) (hs : s.size ≤ 1073741824) :
    Calls Tryd.prog 73 #[.string s] w fun e w' => e = .returned (.bool (validB s)) ∧ G w w' := by
  have hall := all_any s w hs
  have hl : (cks s.data.toList).length ≤ 1073741824 := Nat.le_trans (cks_length_le _) (by simpa using hs)
  go_enter Tryd.func73, Tryd.ntmps73
  go_wp2_with fail
  refine hall.mono ?_
  clear hall
  rintro e w1 ⟨A, c8, rfl, hsl, hg⟩
  go_wp2_with fail
  go_loop [4] (fun i => ∃ k : Nat, k ≤ (cks s.data.toList).length ∧ i = .int .i64 k ∧ Hid (∀ j c, j < k → (cks s.data.toList)[j]? = some c → c.bad = false)) (fun i => (cks s.data.toList).length - (intOf i).toNat)
  case atStart => exact ⟨0, Nat.zero_le _, rfl, by intro j c h; omega⟩
  case round =>
    obtain ⟨k, hk, rfl, hh⟩ := hrel
    by_cases hlt : k < (cks s.data.toList).length
    · obtain ⟨c, hc⟩ := piece_at hlt
      obtain ⟨b, o, rfl, hb, c0, c1, c2, c3⟩ := hsl.ruG (Nat.le_refl _) hc
      replace c3 := c3 _ (G.refl _)
      have n1 : (0 : Int) ≤ ↑k := by omega
      have n2 : (k : Int) < ↑(cks s.data.toList).length := by omega
      clear c0 c1 c2 hsl
      cases hbd : c.bad with
      | true =>
        have hf := validB_not hc hbd
        rw [hbd] at c3
        replace hf := Lib.hid hf
        replace hbd := Lib.hid hbd
        clear hc
        go_wp2_with fail
        go_ret
        exact ⟨by rw [hf.out]; rfl, hg⟩
      | false =>
        have hh2 := all_more hh.out hc hbd
        rw [hbd] at c3
        replace hh2 := Lib.hid hh2
        replace hbd := Lib.hid hbd
        clear hc
        go_wp2_with fail
        go_round
        case rel => exact ⟨k + 1, by omega, by go_num, hh2⟩
        case measure => (simp [intOf] <;> omega)
    · have hf : validB s = true := validB_end fun j c h => hh.out j c (by have := (List.getElem?_eq_some_iff.1 h).1; omega) h
      replace hf := Lib.hid hf
      clear hsl
      go_wp2_with fail
      go_ret
      exact ⟨by rw [hf.out]; rfl, hg⟩
end Go.Proofs.YtheogchkelmeeaaDoor
