/- The orders of events: stamp.Less, stamp.Behind, heap.order, heap.Less, the references' own. No condition. -/
import Derived.Test.YthhhobfdlgmjlaaDoorM18WholeRow
namespace Go.Proofs.YthhhobfdlgmjlaaDoor
open Go.RowKit

structure Cu where
  st : St
  index : Int
  stream : ByteArray
  deriving DecidableEq
def Cu.cells (c : Cu) : List Value := [.int .i64 c.st.wall, .int .i64 c.st.logic, .int .i64 c.st.node, .int .i64 c.index, .string c.stream]
/-- Does an event stand behind a place? -/
def behind (e : Ev) (c : Cu) : Bool :=
  if c.st = e.st then (if c.index = e.index then ltS c.stream e.stream else decide (c.index < e.index)) else stLt c.st e.st
/-- Is an event less than another one? -/
def evLt (a b : Ev) : Bool :=
  if a.st = b.st then (if a.index = b.index then (if a.stream = b.stream then decide (a.version < b.version) else ltS a.stream b.stream) else decide (a.index < b.index)) else stLt a.st b.st
/-- How two events compare, as a number. -/
def evCmp (a b : Ev) : Int := if stLt a.st b.st = true then -1 else if stLt b.st a.st = true then 1 else orOf [cmpI a.index b.index, cmpS a.stream b.stream, cmpI a.version b.version]

theorem stLt_irrefl (a : St) : stLt a a = false := by simp [stLt]
theorem stLt_tri (a b : St) : stLt a b = true ∨ a = b ∨ stLt b a = true := by
  obtain ⟨x, y, z⟩ := a
  obtain ⟨x', y', z'⟩ := b
  simp only [stLt, St.mk.injEq]
  rcases Int.lt_trichotomy x x' with h | h | h
  · left; rw [if_neg (by omega)]; simpa using h
  · subst h
    rcases Int.lt_trichotomy y y' with h | h | h
    · left; rw [if_pos rfl, if_neg (by omega)]; simpa using h
    · subst h
      rcases Int.lt_trichotomy z z' with h | h | h
      · left; simpa using h
      · subst h; right; left; simp
      · right; right; simpa using h
    · right; right; rw [if_pos rfl, if_neg (by omega)]; simpa using h
  · right; right; rw [if_neg (by omega)]; simpa using h
theorem stLt_asymm (a b : St) (h : stLt a b = true) : stLt b a = false := by
  obtain ⟨x, y, z⟩ := a
  obtain ⟨x', y', z'⟩ := b
  simp only [stLt] at h ⊢
  split at h
  · rename_i h1
    rw [if_pos h1.symm]
    split at h
    · rename_i h2
      rw [if_pos h2.symm]
      simp at h ⊢; omega
    · rename_i h2
      rw [if_neg (fun e => h2 e.symm)]
      simp at h ⊢; omega
  · rename_i h1
    rw [if_neg (fun e => h1 e.symm)]
    simp at h ⊢; omega
theorem stCmp_zero (a b : St) : stCmp a b = 0 ↔ a = b := by
  obtain ⟨x, y, z⟩ := a
  obtain ⟨x', y', z'⟩ := b
  simp only [stCmp, orOf, cmpI_eq, St.mk.injEq]
  by_cases h1 : x = x'
  · by_cases h2 : y = y'
    · by_cases h3 : z = z'
      · simp [h1, h2, h3]
      · simp [h1, h2, h3, cmpI_eq]
    · simp [h1, h2, cmpI_eq]
  · simp [h1, cmpI_eq]
theorem ltS_irrefl (a : ByteArray) : ltS a a = false := by
  unfold ltS
  rw [ByteArray.toList_eq]
  generalize a.data.toList = l
  induction l with
  | nil => rfl
  | cons x l ih => simp [Op.bytesLess, ih]
theorem cmpS_zero (a b : ByteArray) : cmpS a b = 0 ↔ a = b := by
  unfold cmpS
  split
  · rename_i h
    constructor
    · intro h2; omega
    · intro h2; subst h2; rw [ltS_irrefl] at h; cases h
  · split <;> simp_all
theorem cmpS_lt (a b : ByteArray) : cmpS a b < 0 ↔ ltS a b = true := by
  unfold cmpS
  split
  · simp_all
  · split <;> simp_all
theorem behind_or (s d : ByteArray) (v : Int) (st : St) (i : Int) (st' : St) (i' : Int) (s' : ByteArray) : decide (orOf [stCmp st' st, cmpI i' i, cmpS s' s] < 0) = behind ⟨s, v, d, st, i⟩ ⟨st', i', s'⟩ := by
  simp only [orOf, stCmp_zero, cmpI_eq, cmpS_zero, behind]
  split
  · split
    · split
      · rename_i h; subst h; simp [ltS_irrefl]
      · simp only [cmpS_lt]; simp
    · simp only [cmpI_lt]
  · exact stCmp_lt _ _
theorem evCmp_lt (a b : Ev) : decide (evCmp a b < 0) = evLt a b := by
  unfold evCmp evLt
  by_cases h1 : a.st = b.st
  · rw [if_pos h1, h1, stLt_irrefl, if_neg (by simp), if_neg (by simp)]
    simp only [orOf, cmpI_eq, cmpS_zero]
    split
    · split
      · split
        · rename_i h; rw [h]; simp
        · simp [cmpI_lt]
      · simp [cmpS_lt]
    · simp [cmpI_lt]
  · rw [if_neg h1]
    rcases stLt_tri a.st b.st with h | h | h
    · rw [h]; simp
    · exact absurd h h1
    · rw [stLt_asymm _ _ h, if_neg (by simp), if_pos h]; simp

set_option maxHeartbeats 400000 in
theorem stLess_any (x y z x' y' z' : Int) (w : World) :
    Calls Tryd.prog 48 #[.agg #[.int .i64 x, .int .i64 y, .int .i64 z], .agg #[.int .i64 x', .int .i64 y', .int .i64 z']] w fun e w' => e = .returned (.bool (stLt ⟨x, y, z⟩ ⟨x', y', z'⟩)) ∧ G w w' := by
  go_enter Tryd.func48, Tryd.ntmps48
  go_wp2_with (go_at_call 63; refine (stOrder_any _ _ _ _ _ _ _).mono ?_; rintro e w1 ⟨rfl, hg1⟩)
  go_ret
  exact ⟨ret_bool (stCmp_lt _ _), ((G.new _ _).alloc _).trans hg1⟩

set_option maxHeartbeats 1000000 in
theorem lessEvent_any (s d : ByteArray) (v x y z i : Int) (s' d' : ByteArray) (v' x' y' z' i' : Int) (w : World) :
    Calls Tryd.prog 15 #[.agg #[.string s, .int .i64 v, .string d, .int .i64 x, .int .i64 y, .int .i64 z, .int .i64 i], .agg #[.string s', .int .i64 v', .string d', .int .i64 x', .int .i64 y', .int .i64 z', .int .i64 i']] w
      fun e w' => e = .returned (.bool (evLt ⟨s, v, d, ⟨x, y, z⟩, i⟩ ⟨s', v', d', ⟨x', y', z'⟩, i'⟩)) ∧ G w w' := by
  have hnq := @st_neq
  by_cases h1 : (⟨x, y, z⟩ : St) = ⟨x', y', z'⟩
  · have e1 : stB ⟨x, y, z⟩ ⟨x', y', z'⟩ = true := by unfold stB; simpa using h1
    by_cases h2 : i = i'
    · subst h2
      by_cases h3 : s = s'
      · subst h3
        replace h1 := Lib.hid h1
        go_enter Tryd.func15, Tryd.ntmps15
        go_wp2_with fail
        go_ret
        exact ⟨ret_bool (by simp only [evLt, h1.out, if_true]), (G.new _ _).alloc _⟩
      · have e3 : (s.toList == s'.toList) = false := by rw [bytes_beq]; simpa using h3
        replace h1 := Lib.hid h1
        replace h3 := Lib.hid h3
        go_enter Tryd.func15, Tryd.ntmps15
        go_wp2_with fail
        go_ret
        exact ⟨ret_bool (by simp only [evLt, h1.out, if_true, if_neg h3.out, ltS]), (G.new _ _).alloc _⟩
    · have e2 : (i != i') = true := by rw [bne_iff_ne]; exact h2
      replace h1 := Lib.hid h1
      replace h2 := Lib.hid h2
      go_enter Tryd.func15, Tryd.ntmps15
      go_wp2_with fail
      go_ret
      exact ⟨ret_bool (by simp only [evLt, h1.out, if_true, if_neg h2.out]), (G.new _ _).alloc _⟩
  · have e1 : stB ⟨x, y, z⟩ ⟨x', y', z'⟩ = false := by unfold stB; simpa using h1
    replace h1 := Lib.hid h1
    go_enter Tryd.func15, Tryd.ntmps15
    go_wp2_with (go_at_call 16; refine (refLess_any _ _ _ _ _ _ _).mono ?_; rintro e wm ⟨rfl, hgm⟩)
    go_ret
    exact ⟨ret_bool (by simp only [evLt, if_neg h1.out]), ((G.new _ _).alloc _).trans hgm⟩

set_option maxHeartbeats 1000000 in
theorem evOrder_any (s d : ByteArray) (v x y z i : Int) (s' d' : ByteArray) (v' x' y' z' i' : Int) (w : World) :
    Calls Tryd.prog 73 #[.agg #[.string s, .int .i64 v, .string d, .int .i64 x, .int .i64 y, .int .i64 z, .int .i64 i], .agg #[.string s', .int .i64 v', .string d', .int .i64 x', .int .i64 y', .int .i64 z', .int .i64 i']] w
      fun e w' => e = .returned (.int .i64 (evCmp ⟨s, v, d, ⟨x, y, z⟩, i⟩ ⟨s', v', d', ⟨x', y', z'⟩, i'⟩)) ∧ G w w' := by
  go_enter Tryd.func73, Tryd.ntmps73
  go_wp2_with fail
  generalize hW0 : (w.alloc (.cells #[.string s, .int .i64 v, .string d, .int .i64 x, .int .i64 y, .int .i64 z, .int .i64 i] 32)).alloc (.cells #[.string s', .int .i64 v', .string d', .int .i64 x', .int .i64 y', .int .i64 z', .int .i64 i'] 32) = W0
  have hz : w.heap.size + 1 < W0.heap.size := by rw [← hW0]; simp
  have hG0 : G w W0 := by rw [← hW0]; exact (G.new _ _).alloc _
  have r0 : W0.cell? ⟨w.heap.size, 0, none⟩ = some (.string s) := by rw [← hW0]; simp
  have r1 : W0.cell? ⟨w.heap.size, 1, none⟩ = some (.int .i64 v) := by rw [← hW0]; simp
  have r2 : W0.cell? ⟨w.heap.size, 2, none⟩ = some (.string d) := by rw [← hW0]; simp
  have r3 : W0.cell? ⟨w.heap.size, 3, none⟩ = some (.int .i64 x) := by rw [← hW0]; simp
  have r4 : W0.cell? ⟨w.heap.size, 4, none⟩ = some (.int .i64 y) := by rw [← hW0]; simp
  have r5 : W0.cell? ⟨w.heap.size, 5, none⟩ = some (.int .i64 z) := by rw [← hW0]; simp
  have r6 : W0.cell? ⟨w.heap.size, 6, none⟩ = some (.int .i64 i) := by rw [← hW0]; simp
  have r7 : W0.cell? ⟨w.heap.size + 1, 0, none⟩ = some (.string s') := by rw [← hW0]; simp
  have r8 : W0.cell? ⟨w.heap.size + 1, 1, none⟩ = some (.int .i64 v') := by rw [← hW0]; simp
  have r9 : W0.cell? ⟨w.heap.size + 1, 2, none⟩ = some (.string d') := by rw [← hW0]; simp
  have r10 : W0.cell? ⟨w.heap.size + 1, 3, none⟩ = some (.int .i64 x') := by rw [← hW0]; simp
  have r11 : W0.cell? ⟨w.heap.size + 1, 4, none⟩ = some (.int .i64 y') := by rw [← hW0]; simp
  have r12 : W0.cell? ⟨w.heap.size + 1, 5, none⟩ = some (.int .i64 z') := by rw [← hW0]; simp
  have r13 : W0.cell? ⟨w.heap.size + 1, 6, none⟩ = some (.int .i64 i') := by rw [← hW0]; simp
  clear hW0
  have q0 : ∀ w', G W0 w' → w'.cell? ⟨w.heap.size, 0, none⟩ = some (.string s) := fun w' h => (h.cell (by omega)).trans r0
  have q1 : ∀ w', G W0 w' → w'.cell? ⟨w.heap.size, 1, none⟩ = some (.int .i64 v) := fun w' h => (h.cell (by omega)).trans r1
  have q2 : ∀ w', G W0 w' → w'.cell? ⟨w.heap.size, 2, none⟩ = some (.string d) := fun w' h => (h.cell (by omega)).trans r2
  have q3 : ∀ w', G W0 w' → w'.cell? ⟨w.heap.size, 3, none⟩ = some (.int .i64 x) := fun w' h => (h.cell (by omega)).trans r3
  have q4 : ∀ w', G W0 w' → w'.cell? ⟨w.heap.size, 4, none⟩ = some (.int .i64 y) := fun w' h => (h.cell (by omega)).trans r4
  have q5 : ∀ w', G W0 w' → w'.cell? ⟨w.heap.size, 5, none⟩ = some (.int .i64 z) := fun w' h => (h.cell (by omega)).trans r5
  have q6 : ∀ w', G W0 w' → w'.cell? ⟨w.heap.size, 6, none⟩ = some (.int .i64 i) := fun w' h => (h.cell (by omega)).trans r6
  have q7 : ∀ w', G W0 w' → w'.cell? ⟨w.heap.size + 1, 0, none⟩ = some (.string s') := fun w' h => (h.cell (by omega)).trans r7
  have q8 : ∀ w', G W0 w' → w'.cell? ⟨w.heap.size + 1, 1, none⟩ = some (.int .i64 v') := fun w' h => (h.cell (by omega)).trans r8
  have q9 : ∀ w', G W0 w' → w'.cell? ⟨w.heap.size + 1, 2, none⟩ = some (.string d') := fun w' h => (h.cell (by omega)).trans r9
  have q10 : ∀ w', G W0 w' → w'.cell? ⟨w.heap.size + 1, 3, none⟩ = some (.int .i64 x') := fun w' h => (h.cell (by omega)).trans r10
  have q11 : ∀ w', G W0 w' → w'.cell? ⟨w.heap.size + 1, 4, none⟩ = some (.int .i64 y') := fun w' h => (h.cell (by omega)).trans r11
  have q12 : ∀ w', G W0 w' → w'.cell? ⟨w.heap.size + 1, 5, none⟩ = some (.int .i64 z') := fun w' h => (h.cell (by omega)).trans r12
  have q13 : ∀ w', G W0 w' → w'.cell? ⟨w.heap.size + 1, 6, none⟩ = some (.int .i64 i') := fun w' h => (h.cell (by omega)).trans r13
  clear r0 r1 r2 r3 r4 r5 r6 r7 r8 r9 r10 r11 r12 r13
  refine (stLess_any _ _ _ _ _ _ _).mono ?_
  rintro e w1 ⟨rfl, hg1⟩
  by_cases h1 : stLt ⟨x, y, z⟩ ⟨x', y', z'⟩ = true
  · go_wp2_with fail
    go_ret
    exact ⟨ret_int (by unfold evCmp; rw [if_pos h1]), hG0.trans hg1⟩
  · have h1' : stLt ⟨x, y, z⟩ ⟨x', y', z'⟩ = false := by simpa using h1
    clear h1
    replace hg1 : G W0 w1 := hg1
    go_wp2_with fail
    refine (stLess_any _ _ _ _ _ _ _).mono ?_
    rintro e w2 ⟨rfl, hg2⟩
    replace hg2 := hg1.trans hg2
    by_cases h2 : stLt ⟨x', y', z'⟩ ⟨x, y, z⟩ = true
    · go_wp2_with fail
      go_ret
      exact ⟨ret_int (by unfold evCmp; rw [h1', if_neg (by simp), if_pos h2]), hG0.trans hg2⟩
    · have h2' : stLt ⟨x', y', z'⟩ ⟨x, y, z⟩ = false := by simpa using h2
      clear h2
      go_wp2_with fail
      go_region_held3 (fun w' => G W0 w') (first | exact hg2.drew | exact G.alloc (by assumption) _ | assumption | fail) (first | (go_at_call 65; refine (cmpI_any _ _ _).mono ?_; rintro e wm ⟨rfl, rfl⟩) | (go_at_call 66; refine (cmpS_any _ _ _).mono ?_; rintro e wm ⟨rfl, rfl⟩) | (go_at_call 64; refine (or_3 _ _ _ _ _ (by simp; rfl) (by simp; rfl) (by simp; rfl)).mono ?_; rintro e wm ⟨rfl, rfl⟩))
      all_goals (go_wp2_with fail; go_ret; exact ⟨ret_int (by unfold evCmp; rw [h1', h2', if_neg (by simp), if_neg (by simp)]), hG0.trans (by assumption)⟩)

end Go.Proofs.YthhhobfdlgmjlaaDoor
