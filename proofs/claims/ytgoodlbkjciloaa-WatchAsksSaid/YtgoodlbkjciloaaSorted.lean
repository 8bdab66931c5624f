/- heap.Sorted and penstockref17.Sorted: whether events are in order. Condition: the length fits an int. -/
import Derived.Test.YtgoodlbkjciloaaOrder
import Derived.Test.YtgoodlbkjciloaaSame
namespace Go.Proofs.Ytgoodlbkjciloaa
open Go.RowKit

def sortedB : List Ev → Bool
  | a :: b :: l => evLt a b && sortedB (b :: l)
  | _ => true
theorem sortedB_iff : ∀ (es : List Ev), sortedB es = true ↔ ∀ (j : Nat) (a b : Ev), es[j]? = some a → es[j + 1]? = some b → evLt a b = true := by
  intro es
  induction es with
  | nil => simp [sortedB]
  | cons x l ih =>
    cases l with
    | nil => simp [sortedB]
    | cons y l =>
      simp only [sortedB, Bool.and_eq_true, ih]
      constructor
      · rintro ⟨h1, h2⟩ j a b ha hb
        cases j with
        | zero => simp at ha hb; subst ha hb; exact h1
        | succ j => exact h2 j a b (by simpa using ha) (by simpa using hb)
      · intro h
        exact ⟨h 0 x y rfl rfl, fun j a b ha hb => h (j + 1) a b (by simpa using ha) (by simpa using hb)⟩
theorem sortedB_false {es : List Ev} {j : Nat} {a b : Ev} (ha : es[j]? = some a) (hb : es[j + 1]? = some b) (h : evLt a b = false) : sortedB es = false := by
  cases hs : sortedB es with
  | false => rfl
  | true => have := (sortedB_iff es).1 hs j a b ha hb; rw [h] at this; cases this

set_option maxHeartbeats 1000000 in
theorem heapSorted_any (es : List Ev) (A : Option Addr) (c B : Nat) (w : World) (hB : B ≤ w.heap.size) (hl : es.length ≤ 9223372036854775806) (hs : Sl Ev.cells 7 w B A es) :
    Calls Try.prog 26 #[.slice A es.length c] w fun e w' => e = .returned (.bool (sortedB es)) ∧ G w w' := by
  go_enter Try.func26, Try.ntmps26
  go_wp2_with fail
  go_loopw [3] (fun i wr => ∃ (k : Nat), i = .int .i64 (k + 1) ∧ k ≤ es.length ∧ G w wr ∧ Hid (∀ (j : Nat) (a b : Ev), j < k → es[j]? = some a → es[j + 1]? = some b → evLt a b = true)) (fun i _ => es.length + 1 - (intOf i).toNat)
  case atStart => exact ⟨0, rfl, Nat.zero_le _, G.refl _, by simp [Hid]⟩
  case round =>
    obtain ⟨k, rfl, hk, hg, hh⟩ := hrel
    by_cases hlt : k + 1 < es.length
    · obtain ⟨⟨s1, v1, d1, ⟨x1, y1, z1⟩, i1⟩, ha⟩ : ∃ a, es[k]? = some a := ⟨_, List.getElem?_eq_getElem (by omega)⟩
      obtain ⟨⟨s2, v2, d2, ⟨x2, y2, z2⟩, i2⟩, hb⟩ : ∃ b, es[k + 1]? = some b := ⟨_, List.getElem?_eq_getElem hlt⟩
      obtain ⟨b1, o1, rfl, hb1, c10, c11, c12, c13, c14, c15, c16⟩ := hs.evG hB ha
      obtain ⟨_, _, e1, _, c20, c21, c22, c23, c24, c25, c26⟩ := hs.evG hB hb
      cases e1
      replace ha := Lib.hid ha
      replace hb := Lib.hid hb
      clear hs
      go_wp2_with fail
      have hwr : IntKind.i64.wrap (↑k + 1 - 1) = ↑k := by rw [IntWalk.i64_in _ (by omega)]; omega
      have hwr2 : IntKind.i64.wrap ↑k = ↑k := by rw [IntWalk.i64_in _ (by omega)]
      have n1 : (0 : Int) ≤ ↑k := by clear hwr hwr2; omega
      have n2 : (↑k : Int) < ↑es.length := by clear hwr hwr2; omega
      have n3 : (0 : Int) ≤ ↑k + 1 := by clear hwr hwr2; omega
      have n4 : (↑k : Int) + 1 < ↑es.length := by clear hwr hwr2; omega
      have n5 : ((k : Int) + 1).toNat = k + 1 := by clear hwr hwr2; omega
      go_region_held3 (fun w' => G w w') (first | exact hg.drew | exact hgm.keep (by assumption) | assumption | fail) (first | (go_at_call 34; refine (heapLess_any _ _ _ _ _ _ _ _ _ _ _ _ _ _ _).mono ?_; rintro e wm ⟨rfl, hgm⟩))
      clear hwr hwr2 n5
      go_wp2_with fail
      · go_ret
        rename_i hq
        exact ⟨ret_bool (sortedB_false ha.out hb.out (by simpa using hq)).symm, by assumption⟩
      · rename_i hq
        go_roundw
        case rel =>
          refine ⟨k + 1, by go_num, by omega, by assumption, ?_⟩
          intro j a b hj h1 h2
          rcases Nat.lt_or_ge j k with h3 | h3
          · exact hh.out j a b h3 h1 h2
          · obtain rfl : j = k := by omega
            rw [ha.out] at h1
            rw [hb.out] at h2
            simp only [Option.some.injEq] at h1 h2
            subst h1 h2
            simpa using hq
        case measure => simp [intOf]; omega
    · go_wp2_with fail
      go_ret
      exact ⟨ret_bool ((sortedB_iff es).2 (fun j a b ha hb => hh.out j a b (by have := (List.getElem?_eq_some_iff.1 hb).1; omega) ha hb)).symm, hg⟩

set_option maxHeartbeats 1000000 in
theorem refSorted_any (es : List Ev) (A : Option Addr) (c B : Nat) (w : World) (hB : B ≤ w.heap.size) (hl : es.length ≤ 9223372036854775806) (hs : Sl Ev.cells 7 w B A es) :
    Calls Try.prog 27 #[.slice A es.length c] w fun e w' => e = .returned (.bool (sortedB es)) ∧ G w w' := by
  go_enter Try.func27, Try.ntmps27
  go_wp2_with fail
  go_loopw [3] (fun i wr => ∃ (k : Nat), i = .int .i64 (k + 1) ∧ k ≤ es.length ∧ G w wr ∧ Hid (∀ (j : Nat) (a b : Ev), j < k → es[j]? = some a → es[j + 1]? = some b → evLt a b = true)) (fun i _ => es.length + 1 - (intOf i).toNat)
  case atStart => exact ⟨0, rfl, Nat.zero_le _, G.refl _, by simp [Hid]⟩
  case round =>
    obtain ⟨k, rfl, hk, hg, hh⟩ := hrel
    by_cases hlt : k + 1 < es.length
    · obtain ⟨⟨s1, v1, d1, ⟨x1, y1, z1⟩, i1⟩, ha⟩ : ∃ a, es[k]? = some a := ⟨_, List.getElem?_eq_getElem (by omega)⟩
      obtain ⟨⟨s2, v2, d2, ⟨x2, y2, z2⟩, i2⟩, hb⟩ : ∃ b, es[k + 1]? = some b := ⟨_, List.getElem?_eq_getElem hlt⟩
      obtain ⟨b1, o1, rfl, hb1, c10, c11, c12, c13, c14, c15, c16⟩ := hs.evG hB ha
      obtain ⟨_, _, e1, _, c20, c21, c22, c23, c24, c25, c26⟩ := hs.evG hB hb
      cases e1
      replace ha := Lib.hid ha
      replace hb := Lib.hid hb
      clear hs
      go_wp2_with fail
      have hwr : IntKind.i64.wrap (↑k + 1 - 1) = ↑k := by rw [IntWalk.i64_in _ (by omega)]; omega
      have hwr2 : IntKind.i64.wrap ↑k = ↑k := by rw [IntWalk.i64_in _ (by omega)]
      have n1 : (0 : Int) ≤ ↑k := by clear hwr hwr2; omega
      have n2 : (↑k : Int) < ↑es.length := by clear hwr hwr2; omega
      have n3 : (0 : Int) ≤ ↑k + 1 := by clear hwr hwr2; omega
      have n4 : (↑k : Int) + 1 < ↑es.length := by clear hwr hwr2; omega
      have n5 : ((k : Int) + 1).toNat = k + 1 := by clear hwr hwr2; omega
      go_region_held3 (fun w' => G w w') (first | exact hg.drew | exact hgm.keep (by assumption) | assumption | fail) (first | (go_at_call 35; refine (lessEvent_any _ _ _ _ _ _ _ _ _ _ _ _ _ _ _).mono ?_; rintro e wm ⟨rfl, hgm⟩))
      clear hwr hwr2 n5
      go_wp2_with fail
      · go_ret
        rename_i hq
        exact ⟨ret_bool (sortedB_false ha.out hb.out (by simpa using hq)).symm, by assumption⟩
      · rename_i hq
        go_roundw
        case rel =>
          refine ⟨k + 1, by go_num, by omega, by assumption, ?_⟩
          intro j a b hj h1 h2
          rcases Nat.lt_or_ge j k with h3 | h3
          · exact hh.out j a b h3 h1 h2
          · obtain rfl : j = k := by omega
            rw [ha.out] at h1
            rw [hb.out] at h2
            simp only [Option.some.injEq] at h1 h2
            subst h1 h2
            simpa using hq
        case measure => simp [intOf]; omega
    · go_wp2_with fail
      go_ret
      exact ⟨ret_bool ((sortedB_iff es).2 (fun j a b ha hb => hh.out j a b (by have := (List.getElem?_eq_some_iff.1 hb).1; omega) ha hb)).symm, hg⟩
end Go.Proofs.Ytgoodlbkjciloaa
