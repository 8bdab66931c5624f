/- glob's reader: one; glob.parse, glob.Check: what they answer. Condition: at most 2^30 runes; the decoder's tables lie as the library lays them. -/
import Derived.Test.YthhhobfdlgmjlaaDoorGlobSetQWholeRow
import Derived.Test.YthhhobfdlgmjlaaDoorM11WholeRow
namespace Go.Proofs.YthhhobfdlgmjlaaDoor
open Go.RowKit

/-- A piece as it lies: its set's address and capacity beside it. -/
structure PcM where
  p : Pc
  A : Option Addr
  c : Nat
def PcM.cells (m : PcM) : List Value := [.int .i64 m.p.kind, .int .i32 m.p.r, .slice m.A m.p.set.length m.c, .bool m.p.none]
theorem PcM.cells_len (m : PcM) : m.cells.length = 4 := rfl
theorem pc_elem : IsElem Tryd.prog 100 112 4 48 PcM.cells :=
  isElem_of (z := .agg #[.int .i64 0, .int .i32 0, .slice none 0 0, .bool false]) Tryd.underlying100 (by kernel_rfl) rfl (by omega) PcM.cells_len (by intro x u hu; simp [PcM.cells] at hu; rcases hu with rfl | rfl | rfl | rfl <;> rfl)
/-- A piece's value, that reads in a world. -/
def OnePost (R : Nat) (A : Option Addr) (c8 : Nat) (ls : List Nat) (w : World) (p : Pc) (l' : List Nat) (b' : Bool) (e : Ending) (w' : World) : Prop :=
  ∃ m : PcM, m.p = p ∧ e = .returned (.agg m.cells.toArray) ∧ OwnL 124 2 spanC w' w.heap.size (.slice m.A p.set.length m.c) p.set ∧ RdTo R A c8 ls l' b' w' ∧ But (fun k => k = R) w w'
set_option maxHeartbeats 2000000 in
theorem one_any (R : Nat) (A : Option Addr) (c8 : Nat) (ls l : List Nat) (b : Bool) (w : World) (h : RdTo R A c8 ls l b w) (hl : ls.length ≤ 1073741824) (hll : l.length ≤ 1073741824) :
    Calls Tryd.prog 62 #[.pointer (some ⟨R, 0, none⟩)] w (OnePost R A c8 ls w (oneS l b).1 (oneS l b).2.1 (oneS l b).2.2) := by
  have hRw : R < w.heap.size := by obtain ⟨_, _, _, h1⟩ := h; exact h1.lt
  have hn := next_any R A c8 ls l b (w.alloc (.cells #[.int .i64 0, .int .i32 0, .slice none 0 0, .bool false] 112)) (h.g (G.new _ _)) hl
  obtain ⟨x, l1, b1, hx⟩ : ∃ x l1 b1, nx l b = (x, l1, b1) := ⟨_, _, _, rfl⟩
  have hle := (nx_le l b).1
  rw [hx] at hn hle
  dsimp only at hn hle
  have hu : oneS l b = if x = 42 then (star, l1, b1) else if x = 63 then (quest, l1, b1) else if x = 91 then setS l1 b1 else if x = 92 then (lit (nx l1 b1).1, (nx l1 b1).2.1, (nx l1 b1).2.2) else (lit x, l1, b1) := by
    unfold oneS
    rw [hx]
  clear hx h
  by_cases h42 : x = 42
  · rw [hu, if_pos h42]
    have t1 : ((x : Int) == 42) = true := by rw [beq_iff_eq]; omega
    clear hu h42
    go_enter Tryd.func62, Tryd.ntmps62
    go_wp2_with fail
    refine hn.mono ?_
    clear hn
    rintro e w1 ⟨rfl, hr1, hb1⟩
    have hQ1 : w1.heap[w.heap.size]? = some (.cells #[.int .i64 0, .int .i32 0, .slice none 0 0, .bool false] 112 (0, 0)) := hb1.blk (blk_new _ _ _) (by omega)
    have hbt1 : But (fun k => k = R) w w1 := (But.of_g (G.new _ _)).trans hb1
    have hbs := stc_but (fun k => k = w.heap.size) w.heap.size rfl [.int .i64 1, .int .i32 0, .slice none 0 0, .bool false] _ _ 0 (But.refl _ w1)
    have hQs := stc_blk [.int .i64 1, .int .i32 0, .slice none 0 0, .bool false] hQ1 rfl
    have e0 := (blk_cell hQs 0).trans (show _ = some (.int .i64 1) from rfl)
    have e1 := (blk_cell hQs 1).trans (show _ = some (.int .i32 0) from rfl)
    have e2 := (blk_cell hQs 2).trans (show _ = some (.slice none 0 0) from rfl)
    have e3 := (blk_cell hQs 3).trans (show _ = some (.bool false) from rfl)
    have hend := (hr1).but hbs (by omega) (by omega)
    have hbt := (hbt1).stc w.heap.size (.inl (Nat.le_refl _)) [.int .i64 1, .int .i32 0, .slice none 0 0, .bool false] 0
    simp only [stc, Nat.reduceAdd] at e0 e1 e2 e3 hend hbt
    replace hend := Lib.hid hend
    replace hbt := Lib.hid hbt
    replace e0 := Lib.hid e0
    replace e1 := Lib.hid e1
    replace e2 := Lib.hid e2
    replace e3 := Lib.hid e3
    have fq : ∀ o, (w1).frozen? ⟨w.heap.size, o, none⟩ = false := fun o => by simp [World.frozen?, hQ1]
    have fq0 := fq 0
    have fq1 := fq 1
    have fq2 := fq 2
    have fq3 := fq 3
    have cq0 := (blk_cell hQ1 0).trans (show _ = some (.int .i64 0) from rfl)
    have cq1 := (blk_cell hQ1 1).trans (show _ = some (.int .i32 0) from rfl)
    have cq2 := (blk_cell hQ1 2).trans (show _ = some (.slice none 0 0) from rfl)
    have cq3 := (blk_cell hQ1 3).trans (show _ = some (.bool false) from rfl)
    clear fq hbs hQs
    (replace hr1 := Lib.hid hr1; replace hb1 := Lib.hid hb1; replace hQ1 := Lib.hid hQ1; replace hbt1 := Lib.hid hbt1; go_wp2_with fail)
    have e0 := e0.out
    have e1 := e1.out
    have e2 := e2.out
    have e3 := e3.out
    refine bodyPost_ret (v := .agg #[.int .i64 1, .int .i32 0, .slice none 0 0, .bool false]) (by simp [results, Tryd.results62, go_sem, e0, e1, e2, e3]) rfl ?_
    exact ⟨⟨star, none, 0⟩, rfl, rfl, OwnL.nil, hend.out, hbt.out⟩
  have t1 : ((x : Int) == 42) = false := by rw [beq_eq_false_iff_ne]; omega
  rw [if_neg h42] at hu
  by_cases h63 : x = 63
  · rw [hu, if_pos h63]
    have t2 : ((x : Int) == 63) = true := by rw [beq_iff_eq]; omega
    clear hu h42 h63
    go_enter Tryd.func62, Tryd.ntmps62
    go_wp2_with fail
    refine hn.mono ?_
    clear hn
    rintro e w1 ⟨rfl, hr1, hb1⟩
    have hQ1 : w1.heap[w.heap.size]? = some (.cells #[.int .i64 0, .int .i32 0, .slice none 0 0, .bool false] 112 (0, 0)) := hb1.blk (blk_new _ _ _) (by omega)
    have hbt1 : But (fun k => k = R) w w1 := (But.of_g (G.new _ _)).trans hb1
    have hbs := stc_but (fun k => k = w.heap.size) w.heap.size rfl [.int .i64 2, .int .i32 0, .slice none 0 0, .bool false] _ _ 0 (But.refl _ w1)
    have hQs := stc_blk [.int .i64 2, .int .i32 0, .slice none 0 0, .bool false] hQ1 rfl
    have e0 := (blk_cell hQs 0).trans (show _ = some (.int .i64 2) from rfl)
    have e1 := (blk_cell hQs 1).trans (show _ = some (.int .i32 0) from rfl)
    have e2 := (blk_cell hQs 2).trans (show _ = some (.slice none 0 0) from rfl)
    have e3 := (blk_cell hQs 3).trans (show _ = some (.bool false) from rfl)
    have hend := (hr1).but hbs (by omega) (by omega)
    have hbt := (hbt1).stc w.heap.size (.inl (Nat.le_refl _)) [.int .i64 2, .int .i32 0, .slice none 0 0, .bool false] 0
    simp only [stc, Nat.reduceAdd] at e0 e1 e2 e3 hend hbt
    replace hend := Lib.hid hend
    replace hbt := Lib.hid hbt
    replace e0 := Lib.hid e0
    replace e1 := Lib.hid e1
    replace e2 := Lib.hid e2
    replace e3 := Lib.hid e3
    have fq : ∀ o, (w1).frozen? ⟨w.heap.size, o, none⟩ = false := fun o => by simp [World.frozen?, hQ1]
    have fq0 := fq 0
    have fq1 := fq 1
    have fq2 := fq 2
    have fq3 := fq 3
    have cq0 := (blk_cell hQ1 0).trans (show _ = some (.int .i64 0) from rfl)
    have cq1 := (blk_cell hQ1 1).trans (show _ = some (.int .i32 0) from rfl)
    have cq2 := (blk_cell hQ1 2).trans (show _ = some (.slice none 0 0) from rfl)
    have cq3 := (blk_cell hQ1 3).trans (show _ = some (.bool false) from rfl)
    clear fq hbs hQs
    (replace hr1 := Lib.hid hr1; replace hb1 := Lib.hid hb1; replace hQ1 := Lib.hid hQ1; replace hbt1 := Lib.hid hbt1; go_wp2_with fail)
    have e0 := e0.out
    have e1 := e1.out
    have e2 := e2.out
    have e3 := e3.out
    refine bodyPost_ret (v := .agg #[.int .i64 2, .int .i32 0, .slice none 0 0, .bool false]) (by simp [results, Tryd.results62, go_sem, e0, e1, e2, e3]) rfl ?_
    exact ⟨⟨quest, none, 0⟩, rfl, rfl, OwnL.nil, hend.out, hbt.out⟩
  have t2 : ((x : Int) == 63) = false := by rw [beq_eq_false_iff_ne]; omega
  rw [if_neg h63] at hu
  by_cases h91 : x = 91
  · rw [hu, if_pos h91]
    have t3 : ((x : Int) == 91) = true := by rw [beq_iff_eq]; omega
    clear hu h42 h63 h91
    obtain ⟨S, no, l2, b2, hS, hk⟩ : ∃ S no l2 b2, setS l1 b1 = (⟨3, 0, S, no⟩, l2, b2) ∧ True := ⟨_, _, _, _, rfl, trivial⟩
    rw [hS]
    replace hS := Lib.hid hS
    go_enter Tryd.func62, Tryd.ntmps62
    go_wp2_with fail
    refine hn.mono ?_
    clear hn
    rintro e w1 ⟨rfl, hr1, hb1⟩
    have hQ1 : w1.heap[w.heap.size]? = some (.cells #[.int .i64 0, .int .i32 0, .slice none 0 0, .bool false] 112 (0, 0)) := hb1.blk (blk_new _ _ _) (by omega)
    have hbt1 : But (fun k => k = R) w w1 := (But.of_g (G.new _ _)).trans hb1
    have hs := set_any R A c8 ls l1 b1 w1 hr1 hl (by omega)
    rw [hS.out] at hs
    dsimp only at hs
    clear hr1 hb1 hk
    replace hQ1 := Lib.hid hQ1
    replace hbt1 := Lib.hid hbt1
    go_wp2_with fail
    refine hs.mono ?_
    clear hs
    rintro e w2 ⟨A2, c2, rfl, hsl2, hr2, hb2⟩
    unfold setCs
    have hQ2 := hb2.blk hQ1.out (by omega)
    have hw1 := blk_lt hQ1.out
    have hbs := stc_but (fun k => k = w.heap.size) w.heap.size rfl [.int .i64 3, .int .i32 0, .slice A2 S.length c2, .bool no] _ _ 0 (But.refl _ w2)
    have hQs := stc_blk [.int .i64 3, .int .i32 0, .slice A2 S.length c2, .bool no] hQ2 rfl
    have e0 := (blk_cell hQs 0).trans (show _ = some (.int .i64 3) from rfl)
    have e1 := (blk_cell hQs 1).trans (show _ = some (.int .i32 0) from rfl)
    have e2 := (blk_cell hQs 2).trans (show _ = some (.slice A2 S.length c2) from rfl)
    have e3 := (blk_cell hQs 3).trans (show _ = some (.bool no) from rfl)
    have hend := hr2.but hbs (by omega) (by omega)
    have hbt := (hbt1.out.trans hb2).stc w.heap.size (.inl (Nat.le_refl _)) [.int .i64 3, .int .i32 0, .slice A2 S.length c2, .bool no] 0
    have hsl3 := (hsl2.but' hbs (fun k hk e => by have := (hsl2.blk hk).1; omega)).mono (by omega : w.heap.size ≤ w1.heap.size)
    simp only [stc, Nat.reduceAdd] at e0 e1 e2 e3 hend hbt hsl3
    have fq : ∀ o, w2.frozen? ⟨w.heap.size, o, none⟩ = false := fun o => by simp [World.frozen?, hQ2]
    have fq0 := fq 0
    have fq1 := fq 1
    have fq2 := fq 2
    have fq3 := fq 3
    have cq0 := (blk_cell hQ2 0).trans (show _ = some (.int .i64 0) from rfl)
    have cq1 := (blk_cell hQ2 1).trans (show _ = some (.int .i32 0) from rfl)
    have cq2 := (blk_cell hQ2 2).trans (show _ = some (.slice none 0 0) from rfl)
    have cq3 := (blk_cell hQ2 3).trans (show _ = some (.bool false) from rfl)
    clear fq hbs hQs hQ2 hb2 hr2 hsl2 hw1
    replace hend := Lib.hid hend
    replace hbt := Lib.hid hbt
    replace hsl3 := Lib.hid hsl3
    replace e0 := Lib.hid e0
    replace e1 := Lib.hid e1
    replace e2 := Lib.hid e2
    replace e3 := Lib.hid e3
    go_wp2_with fail
    have e0 := e0.out
    have e1 := e1.out
    have e2 := e2.out
    have e3 := e3.out
    refine bodyPost_ret (v := .agg #[.int .i64 3, .int .i32 0, .slice A2 S.length c2, .bool no]) (by simp [results, Tryd.results62, go_sem, e0, e1, e2, e3]) rfl ?_
    exact ⟨⟨⟨3, 0, S, no⟩, A2, c2⟩, rfl, rfl, hsl3.out, hend.out, hbt.out⟩
  have t3 : ((x : Int) == 91) = false := by rw [beq_eq_false_iff_ne]; omega
  rw [if_neg h91] at hu
  by_cases h92 : x = 92
  · rw [hu, if_pos h92]
    have t4 : ((x : Int) == 92) = true := by rw [beq_iff_eq]; omega
    clear hu h42 h63 h91 h92
    obtain ⟨y, l2, b2, hy⟩ : ∃ y l2 b2, nx l1 b1 = (y, l2, b2) := ⟨_, _, _, rfl⟩
    rw [hy]
    replace hy := Lib.hid hy
    go_enter Tryd.func62, Tryd.ntmps62
    go_wp2_with fail
    refine hn.mono ?_
    clear hn
    rintro e w1 ⟨rfl, hr1, hb1⟩
    have hQ1 : w1.heap[w.heap.size]? = some (.cells #[.int .i64 0, .int .i32 0, .slice none 0 0, .bool false] 112 (0, 0)) := hb1.blk (blk_new _ _ _) (by omega)
    have hbt1 : But (fun k => k = R) w w1 := (But.of_g (G.new _ _)).trans hb1
    have hn2 := next_any R A c8 ls l1 b1 w1 hr1 hl
    rw [hy.out] at hn2
    dsimp only at hn2
    clear hr1 hb1
    replace hQ1 := Lib.hid hQ1
    replace hbt1 := Lib.hid hbt1
    go_wp2_with fail
    refine hn2.mono ?_
    clear hn2
    rintro e w2 ⟨rfl, hr2, hb2⟩
    have hQ2 := hb2.blk hQ1.out (by omega)
    have hbt2 := hbt1.out.trans hb2
    have hbs := stc_but (fun k => k = w.heap.size) w.heap.size rfl [.int .i64 0, .int .i32 y, .slice none 0 0, .bool false] _ _ 0 (But.refl _ w2)
    have hQs := stc_blk [.int .i64 0, .int .i32 y, .slice none 0 0, .bool false] hQ2 rfl
    have e0 := (blk_cell hQs 0).trans (show _ = some (.int .i64 0) from rfl)
    have e1 := (blk_cell hQs 1).trans (show _ = some (.int .i32 y) from rfl)
    have e2 := (blk_cell hQs 2).trans (show _ = some (.slice none 0 0) from rfl)
    have e3 := (blk_cell hQs 3).trans (show _ = some (.bool false) from rfl)
    have hend := (hr2).but hbs (by omega) (by omega)
    have hbt := (hbt2).stc w.heap.size (.inl (Nat.le_refl _)) [.int .i64 0, .int .i32 y, .slice none 0 0, .bool false] 0
    simp only [stc, Nat.reduceAdd] at e0 e1 e2 e3 hend hbt
    replace hend := Lib.hid hend
    replace hbt := Lib.hid hbt
    replace e0 := Lib.hid e0
    replace e1 := Lib.hid e1
    replace e2 := Lib.hid e2
    replace e3 := Lib.hid e3
    have fq : ∀ o, (w2).frozen? ⟨w.heap.size, o, none⟩ = false := fun o => by simp [World.frozen?, hQ2]
    have fq0 := fq 0
    have fq1 := fq 1
    have fq2 := fq 2
    have fq3 := fq 3
    have cq0 := (blk_cell hQ2 0).trans (show _ = some (.int .i64 0) from rfl)
    have cq1 := (blk_cell hQ2 1).trans (show _ = some (.int .i32 0) from rfl)
    have cq2 := (blk_cell hQ2 2).trans (show _ = some (.slice none 0 0) from rfl)
    have cq3 := (blk_cell hQ2 3).trans (show _ = some (.bool false) from rfl)
    clear fq hbs hQs
    (replace hr2 := Lib.hid hr2; replace hb2 := Lib.hid hb2; replace hQ2 := Lib.hid hQ2; replace hbt2 := Lib.hid hbt2; go_wp2_with fail)
    have e0 := e0.out
    have e1 := e1.out
    have e2 := e2.out
    have e3 := e3.out
    refine bodyPost_ret (v := .agg #[.int .i64 0, .int .i32 y, .slice none 0 0, .bool false]) (by simp [results, Tryd.results62, go_sem, e0, e1, e2, e3]) rfl ?_
    exact ⟨⟨lit y, none, 0⟩, rfl, rfl, OwnL.nil, hend.out, hbt.out⟩
  have t4 : ((x : Int) == 92) = false := by rw [beq_eq_false_iff_ne]; omega
  rw [hu, if_neg h92]
  clear hu h42 h63 h91 h92
  go_enter Tryd.func62, Tryd.ntmps62
  go_wp2_with fail
  refine hn.mono ?_
  clear hn
  rintro e w1 ⟨rfl, hr1, hb1⟩
  have hQ1 : w1.heap[w.heap.size]? = some (.cells #[.int .i64 0, .int .i32 0, .slice none 0 0, .bool false] 112 (0, 0)) := hb1.blk (blk_new _ _ _) (by omega)
  have hbt1 : But (fun k => k = R) w w1 := (But.of_g (G.new _ _)).trans hb1
  have hbs := stc_but (fun k => k = w.heap.size) w.heap.size rfl [.int .i64 0, .int .i32 x, .slice none 0 0, .bool false] _ _ 0 (But.refl _ w1)
  have hQs := stc_blk [.int .i64 0, .int .i32 x, .slice none 0 0, .bool false] hQ1 rfl
  have e0 := (blk_cell hQs 0).trans (show _ = some (.int .i64 0) from rfl)
  have e1 := (blk_cell hQs 1).trans (show _ = some (.int .i32 x) from rfl)
  have e2 := (blk_cell hQs 2).trans (show _ = some (.slice none 0 0) from rfl)
  have e3 := (blk_cell hQs 3).trans (show _ = some (.bool false) from rfl)
  have hend := (hr1).but hbs (by omega) (by omega)
  have hbt := (hbt1).stc w.heap.size (.inl (Nat.le_refl _)) [.int .i64 0, .int .i32 x, .slice none 0 0, .bool false] 0
  simp only [stc, Nat.reduceAdd] at e0 e1 e2 e3 hend hbt
  replace hend := Lib.hid hend
  replace hbt := Lib.hid hbt
  replace e0 := Lib.hid e0
  replace e1 := Lib.hid e1
  replace e2 := Lib.hid e2
  replace e3 := Lib.hid e3
  have fq : ∀ o, (w1).frozen? ⟨w.heap.size, o, none⟩ = false := fun o => by simp [World.frozen?, hQ1]
  have fq0 := fq 0
  have fq1 := fq 1
  have fq2 := fq 2
  have fq3 := fq 3
  have cq0 := (blk_cell hQ1 0).trans (show _ = some (.int .i64 0) from rfl)
  have cq1 := (blk_cell hQ1 1).trans (show _ = some (.int .i32 0) from rfl)
  have cq2 := (blk_cell hQ1 2).trans (show _ = some (.slice none 0 0) from rfl)
  have cq3 := (blk_cell hQ1 3).trans (show _ = some (.bool false) from rfl)
  clear fq hbs hQs
  (replace hr1 := Lib.hid hr1; replace hb1 := Lib.hid hb1; replace hQ1 := Lib.hid hQ1; replace hbt1 := Lib.hid hbt1; go_wp2_with fail)
  have e0 := e0.out
  have e1 := e1.out
  have e2 := e2.out
  have e3 := e3.out
  refine bodyPost_ret (v := .agg #[.int .i64 0, .int .i32 x, .slice none 0 0, .bool false]) (by simp [results, Tryd.results62, go_sem, e0, e1, e2, e3]) rfl ?_
  exact ⟨⟨lit x, none, 0⟩, rfl, rfl, OwnL.nil, hend.out, hbt.out⟩
end Go.Proofs.YthhhobfdlgmjlaaDoor
