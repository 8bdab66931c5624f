/- Several texts in one: Behind, Sorted. -/
import Derived.Test.YthhhobfdlgmjlaaDoorOrderQWholeRow
import Derived.Test.YthhhobfdlgmjlaaDoorM2WholeRow
/- stamp.Behind, penstockref7.Behind: what they answer. No condition. -/
namespace Go.Proofs.YthhhobfdlgmjlaaDoor
open Go.RowKit

set_option maxHeartbeats 1000000 in
theorem behind_any (s d : ByteArray) (v x y z i : Int) (x' y' z' i' : Int) (s' : ByteArray) (w : World) :
    Calls Tryd.prog 49 #[.agg #[.string s, .int .i64 v, .string d, .int .i64 x, .int .i64 y, .int .i64 z, .int .i64 i], .agg #[.int .i64 x', .int .i64 y', .int .i64 z', .int .i64 i', .string s']] w
      fun e w' => e = .returned (.bool (behind ⟨s, v, d, ⟨x, y, z⟩, i⟩ ⟨⟨x', y', z'⟩, i', s'⟩)) ∧ G w w' := by
  go_enter Tryd.func49, Tryd.ntmps49
  go_wp2_with fail
  generalize hW0 : (w.alloc (.cells #[.string s, .int .i64 v, .string d, .int .i64 x, .int .i64 y, .int .i64 z, .int .i64 i] 32)).alloc (.cells #[.int .i64 x', .int .i64 y', .int .i64 z', .int .i64 i', .string s'] 38) = W0
  have hz : w.heap.size + 1 < W0.heap.size := by rw [← hW0]; simp
  have hG0 : G w W0 := by rw [← hW0]; exact (G.new _ _).alloc _
  have r0 : W0.cell? ⟨w.heap.size, 0, none⟩ = some (.string s) := by rw [← hW0]; simp
  have r1 : W0.cell? ⟨w.heap.size, 1, none⟩ = some (.int .i64 v) := by rw [← hW0]; simp
  have r2 : W0.cell? ⟨w.heap.size, 2, none⟩ = some (.string d) := by rw [← hW0]; simp
  have r3 : W0.cell? ⟨w.heap.size, 3, none⟩ = some (.int .i64 x) := by rw [← hW0]; simp
  have r4 : W0.cell? ⟨w.heap.size, 4, none⟩ = some (.int .i64 y) := by rw [← hW0]; simp
  have r5 : W0.cell? ⟨w.heap.size, 5, none⟩ = some (.int .i64 z) := by rw [← hW0]; simp
  have r6 : W0.cell? ⟨w.heap.size, 6, none⟩ = some (.int .i64 i) := by rw [← hW0]; simp
  have r7 : W0.cell? ⟨w.heap.size + 1, 0, none⟩ = some (.int .i64 x') := by rw [← hW0]; simp
  have r8 : W0.cell? ⟨w.heap.size + 1, 1, none⟩ = some (.int .i64 y') := by rw [← hW0]; simp
  have r9 : W0.cell? ⟨w.heap.size + 1, 2, none⟩ = some (.int .i64 z') := by rw [← hW0]; simp
  have r10 : W0.cell? ⟨w.heap.size + 1, 3, none⟩ = some (.int .i64 i') := by rw [← hW0]; simp
  have r11 : W0.cell? ⟨w.heap.size + 1, 4, none⟩ = some (.string s') := by rw [← hW0]; simp
  clear hW0
  have q0 : ∀ w', G W0 w' → w'.cell? ⟨w.heap.size, 0, none⟩ = some (.string s) := fun w' h => (h.cell (by omega)).trans r0
  have q1 : ∀ w', G W0 w' → w'.cell? ⟨w.heap.size, 1, none⟩ = some (.int .i64 v) := fun w' h => (h.cell (by omega)).trans r1
  have q2 : ∀ w', G W0 w' → w'.cell? ⟨w.heap.size, 2, none⟩ = some (.string d) := fun w' h => (h.cell (by omega)).trans r2
  have q3 : ∀ w', G W0 w' → w'.cell? ⟨w.heap.size, 3, none⟩ = some (.int .i64 x) := fun w' h => (h.cell (by omega)).trans r3
  have q4 : ∀ w', G W0 w' → w'.cell? ⟨w.heap.size, 4, none⟩ = some (.int .i64 y) := fun w' h => (h.cell (by omega)).trans r4
  have q5 : ∀ w', G W0 w' → w'.cell? ⟨w.heap.size, 5, none⟩ = some (.int .i64 z) := fun w' h => (h.cell (by omega)).trans r5
  have q6 : ∀ w', G W0 w' → w'.cell? ⟨w.heap.size, 6, none⟩ = some (.int .i64 i) := fun w' h => (h.cell (by omega)).trans r6
  have q7 : ∀ w', G W0 w' → w'.cell? ⟨w.heap.size + 1, 0, none⟩ = some (.int .i64 x') := fun w' h => (h.cell (by omega)).trans r7
  have q8 : ∀ w', G W0 w' → w'.cell? ⟨w.heap.size + 1, 1, none⟩ = some (.int .i64 y') := fun w' h => (h.cell (by omega)).trans r8
  have q9 : ∀ w', G W0 w' → w'.cell? ⟨w.heap.size + 1, 2, none⟩ = some (.int .i64 z') := fun w' h => (h.cell (by omega)).trans r9
  have q10 : ∀ w', G W0 w' → w'.cell? ⟨w.heap.size + 1, 3, none⟩ = some (.int .i64 i') := fun w' h => (h.cell (by omega)).trans r10
  have q11 : ∀ w', G W0 w' → w'.cell? ⟨w.heap.size + 1, 4, none⟩ = some (.string s') := fun w' h => (h.cell (by omega)).trans r11
  clear r0 r1 r2 r3 r4 r5 r6 r7 r8 r9 r10 r11
  go_region_held3 (fun w' => G W0 w') (first | exact (G.refl _).drew | exact hgm.keep (by assumption) | exact G.alloc (by assumption) _ | assumption | fail) (first | (go_at_call 65; refine (cmpI_any _ _ _).mono ?_; rintro e wm ⟨rfl, rfl⟩) | (go_at_call 66; refine (cmpS_any _ _ _).mono ?_; rintro e wm ⟨rfl, rfl⟩) | (go_at_call 63; refine (stOrder_any _ _ _ _ _ _ _).mono ?_; rintro e wm ⟨rfl, hgm⟩) | (go_at_call 64; refine (or_3 _ _ _ _ _ (by simp; rfl) (by simp; rfl) (by simp; rfl)).mono ?_; rintro e wm ⟨rfl, rfl⟩))
  all_goals (go_wp2_with fail; go_ret; exact ⟨ret_bool (behind_or _ _ _ _ _ _ _ _), hG0.trans (by assumption)⟩)

set_option maxHeartbeats 1000000 in
theorem refBehind_any (s d : ByteArray) (v x y z i : Int) (x' y' z' i' : Int) (s' : ByteArray) (w : World) :
    Calls Tryd.prog 18 #[.agg #[.string s, .int .i64 v, .string d, .int .i64 x, .int .i64 y, .int .i64 z, .int .i64 i], .agg #[.int .i64 x', .int .i64 y', .int .i64 z', .int .i64 i', .string s']] w
      fun e w' => e = .returned (.bool (behind ⟨s, v, d, ⟨x, y, z⟩, i⟩ ⟨⟨x', y', z'⟩, i', s'⟩)) ∧ G w w' := by
  have hnq := @st_neq
  by_cases h1 : (⟨x', y', z'⟩ : St) = ⟨x, y, z⟩
  · have e1 : stB ⟨x', y', z'⟩ ⟨x, y, z⟩ = true := by unfold stB; simpa using h1
    by_cases h2 : i' = i
    · subst h2
      replace h1 := Lib.hid h1
      go_enter Tryd.func18, Tryd.ntmps18
      go_wp2_with (go_at_call 16; refine (refLess_any _ _ _ _ _ _ _).mono ?_; rintro e wm ⟨rfl, hgm⟩)
      go_ret
      exact ⟨ret_bool (by simp only [behind, h1.out, if_true]; rfl), (G.new _ _).alloc _⟩
    · have e2 : (i' != i) = true := by rw [bne_iff_ne]; exact h2
      replace h1 := Lib.hid h1
      replace h2 := Lib.hid h2
      go_enter Tryd.func18, Tryd.ntmps18
      go_wp2_with (go_at_call 16; refine (refLess_any _ _ _ _ _ _ _).mono ?_; rintro e wm ⟨rfl, hgm⟩)
      go_ret
      exact ⟨ret_bool (by simp only [behind, h1.out, if_true, if_neg h2.out]), (G.new _ _).alloc _⟩
  · have e1 : stB ⟨x', y', z'⟩ ⟨x, y, z⟩ = false := by unfold stB; simpa using h1
    replace h1 := Lib.hid h1
    go_enter Tryd.func18, Tryd.ntmps18
    go_wp2_with (go_at_call 16; refine (refLess_any _ _ _ _ _ _ _).mono ?_; rintro e wm ⟨rfl, hgm⟩)
    go_ret
    exact ⟨ret_bool (by simp only [behind, if_neg h1.out]), ((G.new _ _).alloc _).trans hgm⟩
end Go.Proofs.YthhhobfdlgmjlaaDoor
/- heap.Sorted and penstockref17.Sorted: whether events are in order. Condition: the length fits an int. -/
namespace Go.Proofs.YthhhobfdlgmjlaaDoor
open Go.RowKit

def sortedB : List Ev → Bool
  | a :: b :: l => evLt a b && sortedB (b :: l)
  | _ => true
theorem sortedB_iff : ∀ (es : List Ev), sortedB es = true ↔ ∀ (j : Nat) (a b : Ev), es[j]? = some a → es[j + 1]? = some b → evLt a b = true := by
  intro es
  induction es with
  | nil => simp [sortedB]
  | cons x l ih =>
    cases l with
    | nil => simp [sortedB]
    | cons y l =>
      simp only [sortedB, Bool.and_eq_true, ih]
      constructor
      · rintro ⟨h1, h2⟩ j a b ha hb
        cases j with
        | zero => simp at ha hb; subst ha hb; exact h1
        | succ j => exact h2 j a b (by simpa using ha) (by simpa using hb)
      · intro h
        exact ⟨h 0 x y rfl rfl, fun j a b ha hb => h (j + 1) a b (by simpa using ha) (by simpa using hb)⟩
theorem sortedB_false {es : List Ev} {j : Nat} {a b : Ev} (ha : es[j]? = some a) (hb : es[j + 1]? = some b) (h : evLt a b = false) : sortedB es = false := by
  cases hs : sortedB es with
  | false => rfl
  | true => have := (sortedB_iff es).1 hs j a b ha hb; rw [h] at this; cases this

set_option maxHeartbeats 1000000 in
theorem refSorted_any (es : List Ev) (A : Option Addr) (c B : Nat) (w : World) (hB : B ≤ w.heap.size) (hl : es.length ≤ 9223372036854775806) (hs : Sl Ev.cells 7 w B A es) :
    Calls Tryd.prog 24 #[.slice A es.length c] w fun e w' => e = .returned (.bool (sortedB es)) ∧ G w w' := by
  go_enter Tryd.func24, Tryd.ntmps24
  go_wp2_with fail
  go_loopw [3] (fun i wr => ∃ (k : Nat), i = .int .i64 (k + 1) ∧ k ≤ es.length ∧ G w wr ∧ Hid (∀ (j : Nat) (a b : Ev), j < k → es[j]? = some a → es[j + 1]? = some b → evLt a b = true)) (fun i _ => es.length + 1 - (intOf i).toNat)
  case atStart => exact ⟨0, rfl, Nat.zero_le _, G.refl _, by simp [Hid]⟩
  case round =>
    obtain ⟨k, rfl, hk, hg, hh⟩ := hrel
    by_cases hlt : k + 1 < es.length
    · obtain ⟨⟨s1, v1, d1, ⟨x1, y1, z1⟩, i1⟩, ha⟩ : ∃ a, es[k]? = some a := ⟨_, List.getElem?_eq_getElem (by omega)⟩
      obtain ⟨⟨s2, v2, d2, ⟨x2, y2, z2⟩, i2⟩, hb⟩ : ∃ b, es[k + 1]? = some b := ⟨_, List.getElem?_eq_getElem hlt⟩
      obtain ⟨b1, o1, rfl, hb1, c10, c11, c12, c13, c14, c15, c16⟩ := hs.evG hB ha
      obtain ⟨_, _, e1, _, c20, c21, c22, c23, c24, c25, c26⟩ := hs.evG hB hb
      cases e1
      replace ha := Lib.hid ha
      replace hb := Lib.hid hb
      clear hs
      go_wp2_with fail
      have hwr : IntKind.i64.wrap (↑k + 1 - 1) = ↑k := by rw [IntWalk.i64_in _ (by omega)]; omega
      have hwr2 : IntKind.i64.wrap ↑k = ↑k := by rw [IntWalk.i64_in _ (by omega)]
      have n1 : (0 : Int) ≤ ↑k := by clear hwr hwr2; omega
      have n2 : (↑k : Int) < ↑es.length := by clear hwr hwr2; omega
      have n3 : (0 : Int) ≤ ↑k + 1 := by clear hwr hwr2; omega
      have n4 : (↑k : Int) + 1 < ↑es.length := by clear hwr hwr2; omega
      have n5 : ((k : Int) + 1).toNat = k + 1 := by clear hwr hwr2; omega
      go_region_held3 (fun w' => G w w') (first | exact hg.drew | exact hgm.keep (by assumption) | assumption | fail) (first | (go_at_call 15; refine (lessEvent_any _ _ _ _ _ _ _ _ _ _ _ _ _ _ _).mono ?_; rintro e wm ⟨rfl, hgm⟩))
      clear hwr hwr2 n5
      go_wp2_with fail
      · go_ret
        rename_i hq
        exact ⟨ret_bool (sortedB_false ha.out hb.out (by simpa using hq)).symm, by assumption⟩
      · rename_i hq
        go_roundw
        case rel =>
          refine ⟨k + 1, by go_num, by omega, by assumption, ?_⟩
          intro j a b hj h1 h2
          rcases Nat.lt_or_ge j k with h3 | h3
          · exact hh.out j a b h3 h1 h2
          · obtain rfl : j = k := by omega
            rw [ha.out] at h1
            rw [hb.out] at h2
            simp only [Option.some.injEq] at h1 h2
            subst h1 h2
            simpa using hq
        case measure => simp [intOf]; omega
    · go_wp2_with fail
      go_ret
      exact ⟨ret_bool ((sortedB_iff es).2 (fun j a b ha hb => hh.out j a b (by have := (List.getElem?_eq_some_iff.1 hb).1; omega) ha hb)).symm, hg⟩
end Go.Proofs.YthhhobfdlgmjlaaDoor
