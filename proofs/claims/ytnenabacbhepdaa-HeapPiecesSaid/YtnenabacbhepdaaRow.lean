/- A row of events in a block that is known; stores into it; a world that is another one but for some blocks. No condition. -/
import Derived.Test.YtnenabacbhepdaaOwn
import Derived.Test.YtnenabacbhepdaaPrefix
namespace Go.Proofs.Ytnenabacbhepdaa
open Go.RowKit

/-- w' is w with more blocks, and but for the blocks that S names. -/
structure But (S : Nat → Prop) (w w' : World) : Prop where
  os : w'.os = w.os
  tape : w'.tape = w.tape
  output : w'.output = w.output
  size : w.heap.size ≤ w'.heap.size
  block : ∀ k, k < w.heap.size → ¬ S k → w'.heap[k]? = w.heap[k]?
theorem But.refl (S : Nat → Prop) (w : World) : But S w w := ⟨rfl, rfl, rfl, Nat.le_refl _, fun _ _ _ => rfl⟩
theorem But.of_g {S : Nat → Prop} {w w' : World} (h : G w w') : But S w w' := ⟨h.os, h.tape, h.output, h.size, fun k hk _ => h.block k hk⟩
theorem But.of_grown {S : Nat → Prop} {w w' : World} {row : Option Nat} (h : w.grownBy w' row) (hr : ∀ k, row = some k → S k) : But S w w' :=
  ⟨h.os, h.tape, h.output, h.size, fun k hk hS => h.block k hk fun e => hS (hr k e.symm)⟩
theorem But.trans {S : Nat → Prop} {a b c : World} (h : But S a b) (k : But S b c) : But S a c :=
  ⟨k.os.trans h.os, k.tape.trans h.tape, k.output.trans h.output, Nat.le_trans h.size k.size, fun i hi hS => (k.block i (Nat.lt_of_lt_of_le hi h.size) hS).trans (h.block i hi hS)⟩
theorem But.g {S : Nat → Prop} {a b c : World} (h : But S a b) (k : G b c) : But S a c := h.trans (.of_g k)
theorem But.mono {S T : Nat → Prop} {a b : World} (h : But S a b) (hS : ∀ k, k < a.heap.size → S k → T k) : But T a b := ⟨h.os, h.tape, h.output, h.size, fun k hk hT => h.block k hk fun e => hT (hS k hk e)⟩
theorem But.drew {S : Nat → Prop} {a b : World} (h : But S a b) : But S a b.drew := ⟨h.os, h.tape, h.output, h.size, h.block⟩
/-- Blocks of a that S names lie from a base on: nothing below it has turned. -/
theorem But.below {S : Nat → Prop} {a b : World} (h : But S a b) {B : Nat} (hB : B ≤ a.heap.size) (hS : ∀ k, k < a.heap.size → S k → B ≤ k) : Below B a b :=
  ⟨h.os, h.tape, h.output, h.size, fun k hk => h.block k (by omega) fun e => by have := hS k (by omega) e; omega⟩
theorem But.blk {S : Nat → Prop} {a b : World} (h : But S a b) {k : Nat} {o : Obj} (hk : a.heap[k]? = some o) (hS : ¬ S k) : b.heap[k]? = some o := (h.block k (blk_lt hk) hS).trans hk
theorem But.cell {S : Nat → Prop} {a b : World} (h : But S a b) {k o : Nat} (hk : k < a.heap.size) (hS : ¬ S k) : b.cell? ⟨k, o, none⟩ = a.cell? ⟨k, o, none⟩ := World.cell?_of_block (w := a) (h.block k hk hS)
theorem But.set {S : Nat → Prop} {a b : World} (h : But S a b) {p : Addr} (hp : a.heap.size ≤ p.block ∨ S p.block) (u : Value) : But S a (b.setCell p u) := by
  have k := (Below.refl 0 b).setCell (p := p) (Nat.zero_le _) u
  refine ⟨k.os.trans h.os, k.tape.trans h.tape, k.output.trans h.output, Nat.le_trans h.size k.size, fun i hi hS => ?_⟩
  refine (Below.heap_setCell _ _ _ _ ?_).trans (h.block i hi hS)
  rintro rfl
  rcases hp with hp | hp
  · omega
  · exact hS hp

/-- Behind w some more blocks turn, of which each is new since a, or one that S names. -/
theorem But.over {S : Nat → Prop} {a b c : World} {g : Nat} (h : But S a b) (k : But (fun k => k = g) b c) (hS : ∀ k, k = g → (a.heap.size ≤ k ∨ S k)) : But S a c :=
  ⟨k.os.trans h.os, k.tape.trans h.tape, k.output.trans h.output, Nat.le_trans h.size k.size, fun i hi hn => (k.block i (Nat.lt_of_lt_of_le hi h.size) (fun e => by
    rcases hS i e with h1 | h1
    · omega
    · exact hn h1)).trans (h.block i hi hn)⟩

/-- Block g is a row of events of the call's own: room for c of them, the first are xs. -/
def Row (w : World) (g c : Nat) (xs : List Ev) : Prop :=
  ∃ cur : Array Value, w.heap[g]? = some (.cells cur 44 (0, 0)) ∧ xs.length ≤ c ∧ c ≤ 9223372036854775807 ∧ cur.size = c * 7 ∧ cur.toList.take (xs.length * 7) = xs.flatMap Ev.cells
theorem Row.own {w : World} {g c base : Nat} {xs : List Ev} (h : Row w g c xs) (hb : base ≤ g) : OwnL 44 7 Ev.cells w base (.slice (some ⟨g, 0, none⟩) xs.length c) xs := by
  obtain ⟨cur, h1, h2, h3, h4, h5⟩ := h
  exact ⟨flat_length Ev.cells_len xs, .inr ⟨g, c, cur, rfl, hb, h1, h2, by simpa [maxLen] using h3, h4, h5⟩⟩
theorem OwnL.row {w : World} {base : Nat} {v : Value} {xs : List Ev} (h : OwnL 44 7 Ev.cells w base v xs) : (v = .slice none 0 0 ∧ xs = []) ∨ ∃ g c, v = .slice (some ⟨g, 0, none⟩) xs.length c ∧ base ≤ g ∧ Row w g c xs := by
  obtain ⟨_, h⟩ := h
  rcases h with ⟨h1, h2⟩ | ⟨g, cap, cur, hv, hb, h1, h2, h3, h4, h5⟩
  · exact .inl ⟨h1, List.eq_nil_of_length_eq_zero h2⟩
  · exact .inr ⟨g, cap, hv, hb, cur, h1, h2, by simpa [maxLen] using h3, h4, h5⟩
theorem Row.lt {w : World} {g c : Nat} {xs : List Ev} (h : Row w g c xs) : g < w.heap.size := by obtain ⟨cur, h1, _⟩ := h; exact blk_lt h1
theorem Row.g {w w' : World} {g c : Nat} {xs : List Ev} (h : Row w g c xs) (hg : G w w') : Row w' g c xs := by obtain ⟨cur, h1, h2⟩ := h; exact ⟨cur, hg.blk h1, h2⟩
theorem Row.but {S : Nat → Prop} {w w' : World} {g c : Nat} {xs : List Ev} (h : Row w g c xs) (hb : But S w w') (hS : ¬ S g) : Row w' g c xs := by obtain ⟨cur, h1, h2⟩ := h; exact ⟨cur, hb.blk h1 hS, h2⟩
theorem Row.sl {w : World} {g c : Nat} {xs : List Ev} (h : Row w g c xs) : Sl Ev.cells 7 w w.heap.size (some ⟨g, 0, none⟩) xs := by
  obtain ⟨A, c', e, _, _, hs⟩ := OwnL.sl Ev.cells_len (h.own (Nat.zero_le _))
  cases e
  exact hs
theorem flat_take (n : Nat) (xs : List Ev) : (xs.take n).flatMap Ev.cells = (xs.flatMap Ev.cells).take (n * 7) := by
  induction xs generalizing n with
  | nil => simp
  | cons x xs ih =>
    cases n with
    | zero => simp
    | succ n =>
      rw [List.take_succ_cons, List.flatMap_cons, List.flatMap_cons, ih, show (n + 1) * 7 = x.cells.length + n * 7 from by rw [Ev.cells_len]; omega, List.take_length_add_append]
theorem flat_drop (n : Nat) (xs : List Ev) : (xs.drop n).flatMap Ev.cells = (xs.flatMap Ev.cells).drop (n * 7) := by
  induction xs generalizing n with
  | nil => simp
  | cons x xs ih =>
    cases n with
    | zero => simp
    | succ n =>
      rw [List.drop_succ_cons, List.flatMap_cons, ih, show (n + 1) * 7 = x.cells.length + n * 7 from by rw [Ev.cells_len]; omega, List.drop_length_add_append]
/-- The first n of them. -/
theorem Row.take {w : World} {g c : Nat} {xs : List Ev} (h : Row w g c xs) (n : Nat) : Row w g c (xs.take n) := by
  obtain ⟨cur, h1, h2, h3, h4, h5⟩ := h
  refine ⟨cur, h1, by rw [List.length_take]; omega, h3, h4, ?_⟩
  rw [flat_take, ← h5, List.take_take, List.length_take]
  congr 1
  omega
/-- A world with values laid into cells, one behind the other. -/
def stc (w : World) (g o : Nat) : List Value → World
  | [] => w
  | u :: us => stc (w.setCell ⟨g, o, none⟩ u) g (o + 1) us
theorem stc_heap (g : Nat) (t : TypeId) (fz : Nat × Nat) : ∀ (us : List Value) (w : World) (o : Nat) (cur : Array Value), w.heap[g]? = some (.cells cur t fz) → o + us.length ≤ cur.size →
    ∃ cur', (stc w g o us).heap[g]? = some (.cells cur' t fz) ∧ cur'.toList = cur.toList.take o ++ us ++ cur.toList.drop (o + us.length) := by
  intro us
  induction us with
  | nil => intro w o cur h _; exact ⟨cur, h, by simp⟩
  | cons u us ih =>
    intro w o cur h hl
    rw [List.length_cons] at hl
    have e1 : (w.setCell ⟨g, o, none⟩ u).heap[g]? = some (.cells (cur.setIfInBounds o u) t fz) := by
      rw [setCell_eq_setRow w g o cur t fz u h]
      exact setRow_heap w g cur _ t _ h
    obtain ⟨cur', h1, h2⟩ := ih (w.setCell ⟨g, o, none⟩ u) (o + 1) (cur.setIfInBounds o u) e1 (by simp; omega)
    refine ⟨cur', h1, ?_⟩
    rw [h2]
    have e := list_seg_step cur.toList o u us (by simp; omega)
    simpa [Array.toList_setIfInBounds, Nat.add_assoc, Nat.add_comm, Nat.add_left_comm] using e
theorem stc_but (S : Nat → Prop) (g : Nat) (hS : S g) : ∀ (us : List Value) (a w : World) (o : Nat), But S a w → But S a (stc w g o us) := by
  intro us
  induction us with
  | nil => intro a w o h; exact h
  | cons u us ih => intro a w o h; exact ih a _ _ (h.set (.inr hS) u)
theorem Row.stored {w : World} {g c : Nat} {xs : List Ev} (h : Row w g c xs) {i : Nat} (hi : i < xs.length) (e : Ev) : Row (stc w g (i * 7) e.cells) g c (xs.set i e) := by
  obtain ⟨cur, h1, h2, h3, h4, h5⟩ := h
  have hl : i * 7 + e.cells.length ≤ cur.size := by rw [Ev.cells_len]; omega
  obtain ⟨cur', k1, k2⟩ := stc_heap g _ _ e.cells w (i * 7) cur h1 hl
  have hsz : cur'.size = c * 7 := by
    rw [← Array.length_toList, k2]
    simp only [List.length_append, List.length_take, List.length_drop, Array.length_toList]
    omega
  refine ⟨cur', k1, by rw [List.length_set]; exact h2, h3, hsz, ?_⟩
  rw [List.length_set, k2]
  have e1 : cur.toList.take (i * 7) = (xs.take i).flatMap Ev.cells := by
    rw [flat_take, ← h5, List.take_take, Nat.min_eq_left (by omega)]
  have e2 : (cur.toList.drop (i * 7 + 7)).take (xs.length * 7 - (i * 7 + 7)) = (xs.drop (i + 1)).flatMap Ev.cells := by
    rw [flat_drop, ← h5, List.drop_take, Nat.succ_mul]
  have l1 : (cur.toList.take (i * 7)).length = i * 7 := by rw [List.length_take, Array.length_toList]; omega
  have l2 : (cur.toList.take (i * 7) ++ e.cells).length = i * 7 + 7 := by rw [List.length_append, l1, Ev.cells_len]
  rw [List.set_eq_take_append_cons_drop, if_pos hi, List.flatMap_append, List.flatMap_cons, ← e1, ← e2, Ev.cells_len, List.take_append, List.take_of_length_le (by rw [l2]; omega), l2, List.append_assoc]
/-- A world with an event stored. -/
def st7 (w : World) (g o : Nat) (x : Ev) : World :=
  ((((((w.setCell ⟨g, o, none⟩ (.string x.stream)).setCell ⟨g, o + 1, none⟩ (.int .i64 x.version)).setCell ⟨g, o + 2, none⟩ (.string x.data)).setCell ⟨g, o + 3, none⟩ (.int .i64 x.st.wall)).setCell ⟨g, o + 4, none⟩ (.int .i64 x.st.logic)).setCell ⟨g, o + 5, none⟩ (.int .i64 x.st.node)).setCell ⟨g, o + 6, none⟩ (.int .i64 x.index)
theorem setCell_size (w : World) (p : Addr) (u : Value) : (w.setCell p u).heap.size = w.heap.size := by simp
theorem st7_size (w : World) (g o : Nat) (x : Ev) : (st7 w g o x).heap.size = w.heap.size := by unfold st7; simp only [setCell_size]
theorem st7_eq (w : World) (g o : Nat) (x : Ev) : stc w g o x.cells = st7 w g o x := rfl
theorem Row.st7 {w : World} {g c : Nat} {xs : List Ev} (h : Row w g c xs) {i : Nat} (hi : i < xs.length) (e : Ev) : Row (st7 w g (i * 7) e) g c (xs.set i e) := h.stored hi e
theorem st7_blk {w : World} {g : Nat} {cur : Array Value} {t : TypeId} {fz : Nat × Nat} (h : w.heap[g]? = some (.cells cur t fz)) (hs : cur.size = 7) (x : Ev) : (st7 w g 0 x).heap[g]? = some (.cells x.cells.toArray t fz) := by
  obtain ⟨cur', h1, h2⟩ := stc_heap g t fz x.cells w 0 cur h (by rw [Ev.cells_len]; omega)
  rw [← st7_eq, h1]
  have : cur' = x.cells.toArray := by
    apply Array.toList_inj.1
    rw [h2, List.take_zero, List.nil_append, List.drop_of_length_le (by rw [Ev.cells_len, Array.length_toList]; omega), List.append_nil]
  rw [this]
theorem st7_but (w : World) (g o : Nat) (x : Ev) : But (fun k => k = g) w (st7 w g o x) := stc_but (fun k => k = g) g rfl x.cells w w o (But.refl _ _)
end Go.Proofs.Ytnenabacbhepdaa
