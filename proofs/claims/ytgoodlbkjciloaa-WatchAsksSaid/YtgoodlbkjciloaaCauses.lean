/- watch.Causes and penstockref27.Causes: whether what was seen stands ahead of what was done then. Condition: the length fits an int. -/
import Derived.Test.YtgoodlbkjciloaaAskLaw
import Derived.Test.YtgoodlbkjciloaaOrder
namespace Go.Proofs.Ytgoodlbkjciloaa
open Go.RowKit

set_option maxHeartbeats 1000000 in
theorem causes_any (es : List Ev) (A : Option Addr) (c B : Nat) (x y z x' y' z' : Int) (w : World) (hB : B ≤ w.heap.size) (hl : es.length ≤ 9223372036854775806) (hs : Sl Ev.cells 7 w B A es) :
    Calls Try.prog 18 #[.slice A es.length c, .agg #[.int .i64 x, .int .i64 y, .int .i64 z], .agg #[.int .i64 x', .int .i64 y', .int .i64 z']] w fun e w' => e = .returned (.bool (causesB es ⟨x, y, z⟩ ⟨x', y', z'⟩)) ∧ G w w' := by
  have hq := @st_eql
  replace hq := Lib.hid hq
  go_enter Try.func18, Try.ntmps18
  go_upto_region 1 with fail
  generalize hW0 : (w.alloc (.cells #[.int .i64 x, .int .i64 y, .int .i64 z] 32)).alloc (.cells #[.int .i64 x', .int .i64 y', .int .i64 z'] 32) = W0
  have hz : w.heap.size + 1 < W0.heap.size := by rw [← hW0]; simp
  have hG0 : G w W0 := by rw [← hW0]; exact (G.new _ _).alloc _
  have r0 : W0.cell? ⟨w.heap.size, 0, none⟩ = some (.int .i64 x) := by rw [← hW0]; simp
  have r1 : W0.cell? ⟨w.heap.size, 1, none⟩ = some (.int .i64 y) := by rw [← hW0]; simp
  have r2 : W0.cell? ⟨w.heap.size, 2, none⟩ = some (.int .i64 z) := by rw [← hW0]; simp
  have r3 : W0.cell? ⟨w.heap.size + 1, 0, none⟩ = some (.int .i64 x') := by rw [← hW0]; simp
  have r4 : W0.cell? ⟨w.heap.size + 1, 1, none⟩ = some (.int .i64 y') := by rw [← hW0]; simp
  have r5 : W0.cell? ⟨w.heap.size + 1, 2, none⟩ = some (.int .i64 z') := by rw [← hW0]; simp
  clear hW0
  have q0 : ∀ w', G W0 w' → w'.cell? ⟨w.heap.size, 0, none⟩ = some (.int .i64 x) := fun w' h => (h.cell (by omega)).trans r0
  have q1 : ∀ w', G W0 w' → w'.cell? ⟨w.heap.size, 1, none⟩ = some (.int .i64 y) := fun w' h => (h.cell (by omega)).trans r1
  have q2 : ∀ w', G W0 w' → w'.cell? ⟨w.heap.size, 2, none⟩ = some (.int .i64 z) := fun w' h => (h.cell (by omega)).trans r2
  have q3 : ∀ w', G W0 w' → w'.cell? ⟨w.heap.size + 1, 0, none⟩ = some (.int .i64 x') := fun w' h => (h.cell (by omega)).trans r3
  have q4 : ∀ w', G W0 w' → w'.cell? ⟨w.heap.size + 1, 1, none⟩ = some (.int .i64 y') := fun w' h => (h.cell (by omega)).trans r4
  have q5 : ∀ w', G W0 w' → w'.cell? ⟨w.heap.size + 1, 2, none⟩ = some (.int .i64 z') := fun w' h => (h.cell (by omega)).trans r5
  clear r0 r1 r2 r3 r4 r5
  have g0 := q0 _ (G.refl W0)
  have g1 := q1 _ (G.refl W0)
  have g2 := q2 _ (G.refl W0)
  have g3 := q3 _ (G.refl W0)
  have g4 := q4 _ (G.refl W0)
  have g5 := q5 _ (G.refl W0)
  by_cases hlt : stLt ⟨x, y, z⟩ ⟨x', y', z'⟩ = true
  · have hfin : causesB es ⟨x, y, z⟩ ⟨x', y', z'⟩ = true := by unfold causesB; rw [if_pos hlt]
    replace hfin := Lib.hid hfin
    go_wp2_with (go_at_call 30; refine (stLess_any _ _ _ _ _ _ _).mono ?_; rintro e w1 ⟨rfl, hg1⟩)
    go_ret
    exact ⟨by rw [hfin.out]; rfl, hG0.trans hg1⟩
  have hlt' : stLt ⟨x, y, z⟩ ⟨x', y', z'⟩ = false := by simpa using hlt
  have hfin : causesB es ⟨x, y, z⟩ ⟨x', y', z'⟩ = causesGo ⟨x, y, z⟩ ⟨x', y', z'⟩ false es := by unfold causesB; rw [if_neg hlt]
  replace hfin := Lib.hid hfin
  clear hlt
  go_wp2_with (go_at_call 30; refine (stLess_any _ _ _ _ _ _ _).mono ?_; rintro e w1 ⟨rfl, hg1⟩)
  clear g0 g1 g2 g3 g4 g5
  go_loopw [7, 15] (fun m i wr => ∃ (k : Nat) (b : Bool), m = .bool b ∧ i = .int .i64 k ∧ k ≤ es.length ∧ G W0 wr ∧ Hid (causesB es ⟨x, y, z⟩ ⟨x', y', z'⟩ = causesGo ⟨x, y, z⟩ ⟨x', y', z'⟩ b (es.drop k))) (fun _ i _ => es.length - (intOf i).toNat)
  case atStart => exact ⟨0, false, rfl, rfl, Nat.zero_le _, hg1, hfin.out⟩
  case round =>
    obtain ⟨k, b, rfl, rfl, hkl, hgr, hh⟩ := hrel
    have hg := hG0.trans hgr
    by_cases hlt : k < es.length
    · obtain ⟨⟨s1, v1, d1, ⟨a1, b1, c1⟩, i1⟩, hx⟩ : ∃ x, es[k]? = some x := ⟨_, List.getElem?_eq_getElem hlt⟩
      have hgo := causesGo_drop hx ⟨x, y, z⟩ ⟨x', y', z'⟩ b
      obtain ⟨bb, o, rfl, hb, e0, e1, e2, e3, e4, e5, e6⟩ := (hs.g hB hg).ev hx
      have n1 : (0 : Int) ≤ (k : Int) := by omega
      have n2 : (k : Int) < (es.length : Int) := by omega
      have hgn := G.new wr (.cells #[.string s1, .int .i64 v1, .string d1, .int .i64 a1, .int .i64 b1, .int .i64 c1, .int .i64 i1] 35)
      have hgx := hgr.trans hgn
      have g0 := q0 _ hgx
      have g1 := q1 _ hgx
      have g2 := q2 _ hgx
      have g3 := q3 _ hgx
      have g4 := q4 _ hgx
      have g5 := q5 _ hgx
      dsimp only at e0 e1 e2 e3 e4 e5 e6 hgo
      replace hx := Lib.hid hx
      have hq := hq.out
      clear hs
      cases b with
      | true =>
        by_cases hse : (⟨a1, b1, c1⟩ : St) = ⟨x, y, z⟩
        · have t1 : stB ⟨a1, b1, c1⟩ ⟨x, y, z⟩ = true := decide_eq_true hse
          have hall2 : causesB es ⟨x, y, z⟩ ⟨x', y', z'⟩ = false := by rw [hh.out, hgo, if_pos ⟨rfl, hse⟩]
          replace hall2 := Lib.hid hall2
          clear hse hgo hfin hh
          go_wp2_with fail
          go_ret
          exact ⟨by rw [hall2.out]; rfl, hG0.trans hgx⟩
        · have t1 : stB ⟨a1, b1, c1⟩ ⟨x, y, z⟩ = false := decide_eq_false hse
          have hall2 : causesB es ⟨x, y, z⟩ ⟨x', y', z'⟩ = causesGo ⟨x, y, z⟩ ⟨x', y', z'⟩ true (es.drop (k + 1)) := by rw [hh.out, hgo, if_neg (fun h => hse h.2), Bool.true_or]
          replace hall2 := Lib.hid hall2
          clear hse hgo hfin hh
          go_wp2_with fail
          go_roundw
          case rel => exact ⟨k + 1, true, rfl, by go_num, by omega, hgx, hall2⟩
          case measure => (simp [intOf] <;> omega)
      | false =>
        have hall2 : causesB es ⟨x, y, z⟩ ⟨x', y', z'⟩ = causesGo ⟨x, y, z⟩ ⟨x', y', z'⟩ (stB ⟨a1, b1, c1⟩ ⟨x', y', z'⟩) (es.drop (k + 1)) := by rw [hh.out, hgo, if_neg (fun h => Bool.false_ne_true h.1), Bool.false_or, stB]
        replace hall2 := Lib.hid hall2
        clear hgo hfin hh
        go_wp2_with fail
        go_roundw
        case rel => exact ⟨k + 1, _, rfl, by go_num, by omega, hgx, hall2⟩
        case measure => (simp [intOf] <;> omega)
    · have hall2 : causesB es ⟨x, y, z⟩ ⟨x', y', z'⟩ = true := by rw [hh.out, List.drop_eq_nil_of_le (by omega)]; rfl
      replace hall2 := Lib.hid hall2
      clear hfin hh
      go_wp2_with fail
      go_ret
      exact ⟨by rw [hall2.out]; rfl, hg⟩
set_option maxHeartbeats 1000000 in
theorem refCauses_any (es : List Ev) (A : Option Addr) (c B : Nat) (x y z x' y' z' : Int) (w : World) (hB : B ≤ w.heap.size) (hl : es.length ≤ 9223372036854775806) (hs : Sl Ev.cells 7 w B A es) :
    Calls Try.prog 19 #[.slice A es.length c, .agg #[.int .i64 x, .int .i64 y, .int .i64 z], .agg #[.int .i64 x', .int .i64 y', .int .i64 z']] w fun e w' => e = .returned (.bool (causesB es ⟨x, y, z⟩ ⟨x', y', z'⟩)) ∧ G w w' := by
  have hq := @st_eql
  replace hq := Lib.hid hq
  go_enter Try.func19, Try.ntmps19
  go_upto_region 1 with fail
  generalize hW0 : (w.alloc (.cells #[.int .i64 x, .int .i64 y, .int .i64 z] 32)).alloc (.cells #[.int .i64 x', .int .i64 y', .int .i64 z'] 32) = W0
  have hz : w.heap.size + 1 < W0.heap.size := by rw [← hW0]; simp
  have hG0 : G w W0 := by rw [← hW0]; exact (G.new _ _).alloc _
  have r0 : W0.cell? ⟨w.heap.size, 0, none⟩ = some (.int .i64 x) := by rw [← hW0]; simp
  have r1 : W0.cell? ⟨w.heap.size, 1, none⟩ = some (.int .i64 y) := by rw [← hW0]; simp
  have r2 : W0.cell? ⟨w.heap.size, 2, none⟩ = some (.int .i64 z) := by rw [← hW0]; simp
  have r3 : W0.cell? ⟨w.heap.size + 1, 0, none⟩ = some (.int .i64 x') := by rw [← hW0]; simp
  have r4 : W0.cell? ⟨w.heap.size + 1, 1, none⟩ = some (.int .i64 y') := by rw [← hW0]; simp
  have r5 : W0.cell? ⟨w.heap.size + 1, 2, none⟩ = some (.int .i64 z') := by rw [← hW0]; simp
  clear hW0
  have q0 : ∀ w', G W0 w' → w'.cell? ⟨w.heap.size, 0, none⟩ = some (.int .i64 x) := fun w' h => (h.cell (by omega)).trans r0
  have q1 : ∀ w', G W0 w' → w'.cell? ⟨w.heap.size, 1, none⟩ = some (.int .i64 y) := fun w' h => (h.cell (by omega)).trans r1
  have q2 : ∀ w', G W0 w' → w'.cell? ⟨w.heap.size, 2, none⟩ = some (.int .i64 z) := fun w' h => (h.cell (by omega)).trans r2
  have q3 : ∀ w', G W0 w' → w'.cell? ⟨w.heap.size + 1, 0, none⟩ = some (.int .i64 x') := fun w' h => (h.cell (by omega)).trans r3
  have q4 : ∀ w', G W0 w' → w'.cell? ⟨w.heap.size + 1, 1, none⟩ = some (.int .i64 y') := fun w' h => (h.cell (by omega)).trans r4
  have q5 : ∀ w', G W0 w' → w'.cell? ⟨w.heap.size + 1, 2, none⟩ = some (.int .i64 z') := fun w' h => (h.cell (by omega)).trans r5
  clear r0 r1 r2 r3 r4 r5
  have g0 := q0 _ (G.refl W0)
  have g1 := q1 _ (G.refl W0)
  have g2 := q2 _ (G.refl W0)
  have g3 := q3 _ (G.refl W0)
  have g4 := q4 _ (G.refl W0)
  have g5 := q5 _ (G.refl W0)
  by_cases hlt : stLt ⟨x, y, z⟩ ⟨x', y', z'⟩ = true
  · have hfin : causesB es ⟨x, y, z⟩ ⟨x', y', z'⟩ = true := by unfold causesB; rw [if_pos hlt]
    replace hfin := Lib.hid hfin
    go_wp2_with (go_at_call 31; refine (refLess_any _ _ _ _ _ _ _).mono ?_; rintro e w1 ⟨rfl, hg1⟩)
    go_ret
    exact ⟨by rw [hfin.out]; rfl, hG0.trans hg1⟩
  have hlt' : stLt ⟨x, y, z⟩ ⟨x', y', z'⟩ = false := by simpa using hlt
  have hfin : causesB es ⟨x, y, z⟩ ⟨x', y', z'⟩ = causesGo ⟨x, y, z⟩ ⟨x', y', z'⟩ false es := by unfold causesB; rw [if_neg hlt]
  replace hfin := Lib.hid hfin
  clear hlt
  go_wp2_with (go_at_call 31; refine (refLess_any _ _ _ _ _ _ _).mono ?_; rintro e w1 ⟨rfl, hg1⟩)
  clear g0 g1 g2 g3 g4 g5
  go_loopw [7, 8] (fun m i wr => ∃ (k : Nat) (b : Bool), m = .bool b ∧ i = .int .i64 k ∧ k ≤ es.length ∧ G W0 wr ∧ Hid (causesB es ⟨x, y, z⟩ ⟨x', y', z'⟩ = causesGo ⟨x, y, z⟩ ⟨x', y', z'⟩ b (es.drop k))) (fun _ i _ => es.length - (intOf i).toNat)
  case atStart => exact ⟨0, false, rfl, rfl, Nat.zero_le _, hg1, hfin.out⟩
  case round =>
    obtain ⟨k, b, rfl, rfl, hkl, hgr, hh⟩ := hrel
    have hg := hG0.trans hgr
    by_cases hlt : k < es.length
    · obtain ⟨⟨s1, v1, d1, ⟨a1, b1, c1⟩, i1⟩, hx⟩ : ∃ x, es[k]? = some x := ⟨_, List.getElem?_eq_getElem hlt⟩
      have hgo := causesGo_drop hx ⟨x, y, z⟩ ⟨x', y', z'⟩ b
      obtain ⟨bb, o, rfl, hb, e0, e1, e2, e3, e4, e5, e6⟩ := (hs.g hB hg).ev hx
      have n1 : (0 : Int) ≤ (k : Int) := by omega
      have n2 : (k : Int) < (es.length : Int) := by omega
      have g0 := q0 _ hgr
      have g1 := q1 _ hgr
      have g2 := q2 _ hgr
      have g3 := q3 _ hgr
      have g4 := q4 _ hgr
      have g5 := q5 _ hgr
      have d3 := (hgr.drewN 1).trans (G.refl _)
      have p3 := q3 _ d3
      have p4 := q4 _ d3
      have p5 := q5 _ d3
      dsimp only at e0 e1 e2 e3 e4 e5 e6 hgo
      replace hx := Lib.hid hx
      have hq := hq.out
      clear hs
      cases b with
      | true =>
        by_cases hse : (⟨a1, b1, c1⟩ : St) = ⟨x, y, z⟩
        · have t1 : stB ⟨a1, b1, c1⟩ ⟨x, y, z⟩ = true := decide_eq_true hse
          have hall2 : causesB es ⟨x, y, z⟩ ⟨x', y', z'⟩ = false := by rw [hh.out, hgo, if_pos ⟨rfl, hse⟩]
          replace hall2 := Lib.hid hall2
          clear hse hgo hfin hh
          go_upto_region 7 with fail
          go_quiet (fail)
          go_wp2_with fail
          go_ret
          exact ⟨by rw [hall2.out]; rfl, by first | exact hg | exact hg.drew | exact hg.drewN _⟩
        · have t1 : stB ⟨a1, b1, c1⟩ ⟨x, y, z⟩ = false := decide_eq_false hse
          have hall2 : causesB es ⟨x, y, z⟩ ⟨x', y', z'⟩ = causesGo ⟨x, y, z⟩ ⟨x', y', z'⟩ true (es.drop (k + 1)) := by rw [hh.out, hgo, if_neg (fun h => hse h.2), Bool.true_or]
          replace hall2 := Lib.hid hall2
          clear hse hgo hfin hh
          go_upto_region 7 with fail
          go_quiet (fail)
          go_wp2_with fail
          go_upto_region 9 with fail
          go_quiet (fail)
          go_wp2_with fail
          go_roundw
          case rel => exact ⟨k + 1, true, rfl, by go_num, by omega, by first | exact hgr | exact hgr.drew | exact hgr.drewN _ | exact (hgr.drewN _).drewN _, hall2⟩
          case measure => (simp [intOf] <;> omega)
      | false =>
        have hall2 : causesB es ⟨x, y, z⟩ ⟨x', y', z'⟩ = causesGo ⟨x, y, z⟩ ⟨x', y', z'⟩ (stB ⟨a1, b1, c1⟩ ⟨x', y', z'⟩) (es.drop (k + 1)) := by rw [hh.out, hgo, if_neg (fun h => Bool.false_ne_true h.1), Bool.false_or, stB]
        replace hall2 := Lib.hid hall2
        clear hgo hfin hh
        go_upto_region 7 with fail
        go_quiet (fail)
        go_wp2_with fail
        go_upto_region 9 with fail
        go_quiet (fail)
        go_wp2_with fail
        go_roundw
        case rel => exact ⟨k + 1, _, rfl, by go_num, by omega, by first | exact hgr | exact hgr.drew | exact hgr.drewN _ | exact (hgr.drewN _).drewN _, hall2⟩
        case measure => (simp [intOf] <;> omega)
    · have hall2 : causesB es ⟨x, y, z⟩ ⟨x', y', z'⟩ = true := by rw [hh.out, List.drop_eq_nil_of_le (by omega)]; rfl
      replace hall2 := Lib.hid hall2
      clear hfin hh
      go_wp2_with fail
      go_ret
      exact ⟨by rw [hall2.out]; rfl, hg⟩
end Go.Proofs.Ytgoodlbkjciloaa
