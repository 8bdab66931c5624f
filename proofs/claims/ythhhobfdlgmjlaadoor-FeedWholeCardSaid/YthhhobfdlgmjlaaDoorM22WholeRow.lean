/- Several texts in one: Least, Row. -/
import Derived.Test.YthhhobfdlgmjlaaDoorPileQWholeRow
import Derived.Test.YthhhobfdlgmjlaaDoorOwn
import Derived.Test.YthhhobfdlgmjlaaDoorM5WholeRow
import Derived.Test.YthhhobfdlgmjlaaDoorOwnButQWholeRow
/- (heap.pile).least: the heap's own order of two of its events. Condition: the length fits an int. -/
namespace Go.Proofs.YthhhobfdlgmjlaaDoor
open Go.RowKit

set_option maxHeartbeats 1000000 in
theorem least_any (xs : List Ev) (A : Option Addr) (c B : Nat) (w : World) (hB : B ≤ w.heap.size) (_hl : xs.length ≤ 9223372036854775806) (hs : Sl Ev.cells 7 w B A xs) (i k : Nat) (a b : Ev) (ha : xs[i]? = some a) (hb : xs[k]? = some b) :
    Calls Tryd.prog 67 #[.slice A xs.length c, .int .i64 i, .int .i64 k] w fun e w' => e = .returned (.bool (fl a b)) ∧ G w w' := by
  have hla := (List.getElem?_eq_some_iff.1 ha).1
  have hlb := (List.getElem?_eq_some_iff.1 hb).1
  obtain ⟨s1, v1, d1, ⟨x1, y1, z1⟩, i1⟩ := a
  obtain ⟨s2, v2, d2, ⟨x2, y2, z2⟩, i2⟩ := b
  obtain ⟨b1, o1, rfl, hb1, c10, c11, c12, c13, c14, c15, c16⟩ := hs.evG hB ha
  obtain ⟨_, _, e1, _, c20, c21, c22, c23, c24, c25, c26⟩ := hs.evG hB hb
  cases e1
  clear hs ha hb
  go_enter Tryd.func67, Tryd.ntmps67
  go_wp2_with fail
  have n1 : (0 : Int) ≤ ↑i := by omega
  have n2 : (i : Int) < ↑xs.length := by omega
  have n3 : (0 : Int) ≤ ↑k := by omega
  have n4 : (k : Int) < ↑xs.length := by omega
  go_region_held3 (fun w' => G w w') (first | exact (G.refl _).drew | exact hgm.keep (by assumption) | exact G.alloc (by assumption) _ | assumption | fail) (first | (go_at_call 73; refine (evOrder_any _ _ _ _ _ _ _ _ _ _ _ _ _ _ _).mono ?_; rintro e wm ⟨rfl, hgm⟩) | (go_at_call 66; refine (cmpS_any _ _ _).mono ?_; rintro e wm ⟨rfl, rfl⟩) | (go_at_call 64; refine (or_2 _ _ _ _ (by simp; rfl) (by simp; rfl)).mono ?_; rintro e wm ⟨rfl, rfl⟩))
  all_goals (go_wp2_with fail; go_ret; exact ⟨ret_bool (least_fl _ _), by assumption⟩)
end Go.Proofs.YthhhobfdlgmjlaaDoor
/- A row of events in a block that is known; stores into it; a world that is another one but for some blocks. No condition. -/
namespace Go.Proofs.YthhhobfdlgmjlaaDoor
open Go.RowKit

/-- Block g is a row of events of the call's own: room for c of them, the first are xs. -/
def Row (w : World) (g c : Nat) (xs : List Ev) : Prop :=
  ∃ cur : Array Value, w.heap[g]? = some (.cells cur 32 (0, 0)) ∧ xs.length ≤ c ∧ c ≤ 9223372036854775807 ∧ cur.size = c * 7 ∧ cur.toList.take (xs.length * 7) = xs.flatMap Ev.cells
theorem Row.own {w : World} {g c base : Nat} {xs : List Ev} (h : Row w g c xs) (hb : base ≤ g) : OwnL 32 7 Ev.cells w base (.slice (some ⟨g, 0, none⟩) xs.length c) xs := by
  obtain ⟨cur, h1, h2, h3, h4, h5⟩ := h
  exact ⟨flat_length Ev.cells_len xs, .inr ⟨g, c, cur, rfl, hb, h1, h2, by simpa [maxLen] using h3, h4, h5⟩⟩
theorem OwnL.row {w : World} {base : Nat} {v : Value} {xs : List Ev} (h : OwnL 32 7 Ev.cells w base v xs) : (v = .slice none 0 0 ∧ xs = []) ∨ ∃ g c, v = .slice (some ⟨g, 0, none⟩) xs.length c ∧ base ≤ g ∧ Row w g c xs := by
  obtain ⟨_, h⟩ := h
  rcases h with ⟨h1, h2⟩ | ⟨g, cap, cur, hv, hb, h1, h2, h3, h4, h5⟩
  · exact .inl ⟨h1, List.eq_nil_of_length_eq_zero h2⟩
  · exact .inr ⟨g, cap, hv, hb, cur, h1, h2, by simpa [maxLen] using h3, h4, h5⟩
theorem Row.lt {w : World} {g c : Nat} {xs : List Ev} (h : Row w g c xs) : g < w.heap.size := by obtain ⟨cur, h1, _⟩ := h; exact blk_lt h1
theorem Row.g {w w' : World} {g c : Nat} {xs : List Ev} (h : Row w g c xs) (hg : G w w') : Row w' g c xs := by obtain ⟨cur, h1, h2⟩ := h; exact ⟨cur, hg.blk h1, h2⟩
theorem Row.but {S : Nat → Prop} {w w' : World} {g c : Nat} {xs : List Ev} (h : Row w g c xs) (hb : But S w w') (hS : ¬ S g) : Row w' g c xs := by obtain ⟨cur, h1, h2⟩ := h; exact ⟨cur, hb.blk h1 hS, h2⟩
theorem Row.sl {w : World} {g c : Nat} {xs : List Ev} (h : Row w g c xs) : Sl Ev.cells 7 w w.heap.size (some ⟨g, 0, none⟩) xs := by
  obtain ⟨A, c', e, _, _, hs⟩ := OwnL.sl Ev.cells_len (h.own (Nat.zero_le _))
  cases e
  exact hs
theorem flat_take (n : Nat) (xs : List Ev) : (xs.take n).flatMap Ev.cells = (xs.flatMap Ev.cells).take (n * 7) := by
  induction xs generalizing n with
  | nil => simp
  | cons x xs ih =>
    cases n with
    | zero => simp
    | succ n =>
      rw [List.take_succ_cons, List.flatMap_cons, List.flatMap_cons, ih, show (n + 1) * 7 = x.cells.length + n * 7 from by rw [Ev.cells_len]; omega, List.take_length_add_append]
theorem flat_drop (n : Nat) (xs : List Ev) : (xs.drop n).flatMap Ev.cells = (xs.flatMap Ev.cells).drop (n * 7) := by
  induction xs generalizing n with
  | nil => simp
  | cons x xs ih =>
    cases n with
    | zero => simp
    | succ n =>
      rw [List.drop_succ_cons, List.flatMap_cons, ih, show (n + 1) * 7 = x.cells.length + n * 7 from by rw [Ev.cells_len]; omega, List.drop_length_add_append]
/-- The first n of them. -/
theorem Row.take {w : World} {g c : Nat} {xs : List Ev} (h : Row w g c xs) (n : Nat) : Row w g c (xs.take n) := by
  obtain ⟨cur, h1, h2, h3, h4, h5⟩ := h
  refine ⟨cur, h1, by rw [List.length_take]; omega, h3, h4, ?_⟩
  rw [flat_take, ← h5, List.take_take, List.length_take]
  congr 1
  omega
theorem Row.stored {w : World} {g c : Nat} {xs : List Ev} (h : Row w g c xs) {i : Nat} (hi : i < xs.length) (e : Ev) : Row (stc w g (i * 7) e.cells) g c (xs.set i e) := by
  obtain ⟨cur, h1, h2, h3, h4, h5⟩ := h
  have hl : i * 7 + e.cells.length ≤ cur.size := by rw [Ev.cells_len]; omega
  obtain ⟨cur', k1, k2⟩ := stc_heap g _ _ e.cells w (i * 7) cur h1 hl
  have hsz : cur'.size = c * 7 := by
    rw [← Array.length_toList, k2]
    simp only [List.length_append, List.length_take, List.length_drop, Array.length_toList]
    omega
  refine ⟨cur', k1, by rw [List.length_set]; exact h2, h3, hsz, ?_⟩
  rw [List.length_set, k2]
  have e1 : cur.toList.take (i * 7) = (xs.take i).flatMap Ev.cells := by
    rw [flat_take, ← h5, List.take_take, Nat.min_eq_left (by omega)]
  have e2 : (cur.toList.drop (i * 7 + 7)).take (xs.length * 7 - (i * 7 + 7)) = (xs.drop (i + 1)).flatMap Ev.cells := by
    rw [flat_drop, ← h5, List.drop_take, Nat.succ_mul]
  have l1 : (cur.toList.take (i * 7)).length = i * 7 := by rw [List.length_take, Array.length_toList]; omega
  have l2 : (cur.toList.take (i * 7) ++ e.cells).length = i * 7 + 7 := by rw [List.length_append, l1, Ev.cells_len]
  rw [List.set_eq_take_append_cons_drop, if_pos hi, List.flatMap_append, List.flatMap_cons, ← e1, ← e2, Ev.cells_len, List.take_append, List.take_of_length_le (by rw [l2]; omega), l2, List.append_assoc]
/-- A world with an event stored. -/
def st7 (w : World) (g o : Nat) (x : Ev) : World :=
  ((((((w.setCell ⟨g, o, none⟩ (.string x.stream)).setCell ⟨g, o + 1, none⟩ (.int .i64 x.version)).setCell ⟨g, o + 2, none⟩ (.string x.data)).setCell ⟨g, o + 3, none⟩ (.int .i64 x.st.wall)).setCell ⟨g, o + 4, none⟩ (.int .i64 x.st.logic)).setCell ⟨g, o + 5, none⟩ (.int .i64 x.st.node)).setCell ⟨g, o + 6, none⟩ (.int .i64 x.index)
theorem setCell_size (w : World) (p : Addr) (u : Value) : (w.setCell p u).heap.size = w.heap.size := by simp
theorem st7_size (w : World) (g o : Nat) (x : Ev) : (st7 w g o x).heap.size = w.heap.size := by unfold st7; simp only [setCell_size]
theorem st7_eq (w : World) (g o : Nat) (x : Ev) : stc w g o x.cells = st7 w g o x := rfl
theorem Row.st7 {w : World} {g c : Nat} {xs : List Ev} (h : Row w g c xs) {i : Nat} (hi : i < xs.length) (e : Ev) : Row (st7 w g (i * 7) e) g c (xs.set i e) := h.stored hi e
theorem st7_blk {w : World} {g : Nat} {cur : Array Value} {t : TypeId} {fz : Nat × Nat} (h : w.heap[g]? = some (.cells cur t fz)) (hs : cur.size = 7) (x : Ev) : (st7 w g 0 x).heap[g]? = some (.cells x.cells.toArray t fz) := by
  obtain ⟨cur', h1, h2⟩ := stc_heap g t fz x.cells w 0 cur h (by rw [Ev.cells_len]; omega)
  rw [← st7_eq, h1]
  have : cur' = x.cells.toArray := by
    apply Array.toList_inj.1
    rw [h2, List.take_zero, List.nil_append, List.drop_of_length_le (by rw [Ev.cells_len, Array.length_toList]; omega), List.append_nil]
  rw [this]
theorem st7_but (w : World) (g o : Nat) (x : Ev) : But (fun k => k = g) w (st7 w g o x) := stc_but (fun k => k = g) g rfl x.cells w w o (But.refl _ _)
end Go.Proofs.YthhhobfdlgmjlaaDoor
