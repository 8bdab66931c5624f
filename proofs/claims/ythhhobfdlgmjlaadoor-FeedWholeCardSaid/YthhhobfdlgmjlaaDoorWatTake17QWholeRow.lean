/- penstockref17's Take: a node's first events. Conditions: at most six nodes, at most 8000 events. -/
import Derived.Test.YthhhobfdlgmjlaaDoorWatTakeQWholeRow
namespace Go.Proofs.YthhhobfdlgmjlaaDoor
open Go.RowKit

theorem other17_any {w : World} {base T g c : Nat} {ps : List PeerM} (h : TabAt 77 79 w base T g c ps) (k : Nat) (hk : k ≤ 1000) (hl : ps.length ≤ 6) :
    Calls Tryd.prog 44 #[.pointer (some ⟨T, 0, none⟩), .int .i64 k] w fun e w' => e = .returned (.bool (decide (2 ≤ k ∧ k ≤ ps.length))) ∧ w = w' := by
  have c0 := h.self
  have c1 := h.row
  clear h
  go_enter Tryd.func44, Tryd.ntmps44
  by_cases h1 : k < 1
  · go_wp2_with fail
    go_ret
    exact ⟨ret_bool (by rw [Bool.eq_iff_iff]; first | (simp; done) | (simp; omega) | omega), rfl⟩
  · by_cases h2 : k ≤ ps.length
    · by_cases h3 : k = 1
      · subst h3
        go_wp2_with fail
        go_ret
        exact ⟨ret_bool (by rw [Bool.eq_iff_iff]; first | (simp; done) | (simp; omega) | omega), rfl⟩
      · go_wp2_with fail
        go_ret
        exact ⟨ret_bool (by rw [Bool.eq_iff_iff]; first | (simp; done) | (simp; omega) | omega), rfl⟩
    · go_wp2_with fail
      go_ret
      exact ⟨ret_bool (by rw [Bool.eq_iff_iff]; first | (simp; done) | (simp; omega) | omega), rfl⟩
theorem next17_any {w : World} {base T g c : Nat} {ps : List PeerM} (h : TabAt 77 79 w base T g c ps) (m : Nat) (h2 : 1 ≤ m) (hl : ps.length ≤ 6) {p : PeerM} (hp : ps[m]? = some p) :
    Calls Tryd.prog 45 #[.pointer (some ⟨T, 0, none⟩), .int .i64 ((m : Int) + 1)] w fun e w' => e = .returned (.int .i64 p.es.length) ∧ w = w' := by
  have hkl : m < ps.length := (List.getElem?_eq_some_iff.1 hp).1
  have c1 := h.row
  obtain ⟨d0, _, _, _⟩ := h.cells hp
  have ho := other17_any h (m + 1) (by omega) hl
  rw [decide_eq_true ⟨by omega, by omega⟩, show (((m + 1 : Nat) : Int)) = (m : Int) + 1 by omega] at ho
  have hw1 : IntKind.i64.wrap ((m : Int) + 1 - 1) = m := by rw [IntKind.wrap_i64]; omega
  clear h hp
  go_enter Tryd.func45, Tryd.ntmps45
  go_wp2_with fail
  refine ho.mono ?_
  rintro e w1 ⟨rfl, rfl⟩
  clear ho
  go_wp2_with fail
  go_ret
  exact ⟨rfl, rfl⟩
theorem own_blk7 {w : World} {base : Nat} {v : Value} {ps : List PeerM} {tP : TypeId} {m : Nat} {p : PeerM} (h : OwnL tP 4 PeerM.cells w base v ps) (hp : ps[m]? = some p) : ∃ g c, v = .slice (some ⟨g, 0, none⟩) ps.length c ∧ base ≤ g ∧ ∃ cs, w.heap[g]? = some (.cells cs tP (0, 0)) := by
  rcases h.2 with ⟨_, h1⟩ | ⟨g, cap, cur, e, hb, hh, _⟩
  · have : ps = [] := List.eq_nil_of_length_eq_zero h1
    subst this
    simp at hp
  · exact ⟨g, cap, e, hb, cur, hh⟩
theorem own_cells7 {w : World} {base g c : Nat} {ps : List PeerM} {tP : TypeId} {m : Nat} (h : OwnL tP 4 PeerM.cells w base (.slice (some ⟨g, 0, none⟩) ps.length c) ps) (hp : ps[m]? = some peer0) : w.cell? ⟨g, m * 4, none⟩ = some (.slice none 0 0) ∧ w.cell? ⟨g, m * 4 + 1, none⟩ = some (.int .i64 0) ∧ w.cell? ⟨g, m * 4 + 2, none⟩ = some (.int .i64 0) ∧ w.cell? ⟨g, m * 4 + 3, none⟩ = some (.int .i64 0) := by
  obtain ⟨b, o, e, _, hc⟩ := (h.self PeerM.cells_len).get hp
  cases e
  have h0 := hc 0 _ rfl
  have h1 := hc 1 _ rfl
  have h2 := hc 2 _ rfl
  have h3 := hc 3 _ rfl
  simp only [Nat.zero_add, Nat.add_zero] at h0 h1 h2 h3
  exact ⟨h0, h1, h2, h3⟩
theorem own_free {w : World} {g : Nat} {cs : Array Value} {t : TypeId} (h : w.heap[g]? = some (.cells cs t (0, 0))) (i : Nat) : w.frozen? ⟨g, i, none⟩ = false := by simp [World.frozen?, h]
theorem put_n {w : World} {base g c n : Nat} {ps : List PeerM} {tP : TypeId} (hn : n = ps.length) (h : OwnL tP 4 PeerM.cells w base (.slice (some ⟨g, 0, none⟩) n c) ps) {k j : Nat} {p q : PeerM} {u : Value} (hp : ps[k]? = some p) (hj : j < 4) (hq : q.cells = p.cells.set j u) :
    OwnL tP 4 PeerM.cells (w.setCell ⟨g, k * 4 + j, none⟩ u) base (.slice (some ⟨g, 0, none⟩) n c) (ps.set k q) := by
  subst hn
  exact h.put PeerM.cells_len hp hj hq
theorem type_ne {w : World} {k : Nat} {cs cs' : Array Value} {t t' : TypeId} (h : w.heap[k]? = some (.cells cs t (0, 0))) (h' : w.heap[k]? = some (.cells cs' t' (0, 0))) (hne : t ≠ t') : False := by
  rw [h] at h'
  simp only [Option.some.injEq, Obj.cells.injEq] at h'
  exact hne h'.2.1
theorem But.trans2 {S R : Nat → Prop} {a b c : World} (h : But S a b) (k : But R b c) (hS : ∀ j, R j → (a.heap.size ≤ j ∨ S j)) : But S a c :=
  ⟨k.os.trans h.os, k.tape.trans h.tape, k.output.trans h.output, Nat.le_trans h.size k.size, fun i hi hn => (k.block i (Nat.lt_of_lt_of_le hi h.size) (fun e => by
    rcases hS i e with h1 | h1
    · omega
    · exact hn h1)).trans (h.block i hi hn)⟩
/-- The row moved to another block, one peer laid anew. -/
theorem tab_moved {w : World} {tT tP : TypeId} {base B T g c g7 c7 m : Nat} {ps : List PeerM} (h : TabAt tT tP w base T g c ps) (hown : OwnL tP 4 PeerM.cells w B (.slice (some ⟨g7, 0, none⟩) ps.length c7) ps) (hB : base ≤ B) (hp : ps[m]? = some peer0)
    (A' : Option Addr) (c' : Nat) (es : List Ev) (m1 m2 m3 : Int) (ho : OwnL 32 7 Ev.cells w base (.slice A' es.length c') es) (n1 : tP ≠ tT) (n2 : tP ≠ 32) (n3 : tT ≠ 32) :
    TabAt tT tP (((((w.setCell ⟨g7, m * 4, none⟩ (.slice A' es.length c')).setCell ⟨g7, m * 4 + 1, none⟩ (.int .i64 m1)).setCell ⟨g7, m * 4 + 2, none⟩ (.int .i64 m2)).setCell ⟨g7, m * 4 + 3, none⟩ (.int .i64 m3)).setCell ⟨T, 1, none⟩ (.slice (some ⟨g7, 0, none⟩) ps.length c7)) base T g7 c7 (ps.set m ⟨A', c', es, ⟨m1, m2, m3⟩⟩) ∧
    But (fun j => j = g7 ∨ j = T) w (((((w.setCell ⟨g7, m * 4, none⟩ (.slice A' es.length c')).setCell ⟨g7, m * 4 + 1, none⟩ (.int .i64 m1)).setCell ⟨g7, m * 4 + 2, none⟩ (.int .i64 m2)).setCell ⟨g7, m * 4 + 3, none⟩ (.int .i64 m3)).setCell ⟨T, 1, none⟩ (.slice (some ⟨g7, 0, none⟩) ps.length c7)) := by
  have hkl : m < ps.length := (List.getElem?_eq_some_iff.1 hp).1
  obtain ⟨hg7, _, cs7, hh7⟩ := hown.blk rfl
  have a0 := put_n (j := 0) (q := ⟨A', c', es, ⟨0, 0, 0⟩⟩) (u := .slice A' es.length c') rfl hown hp (by omega) rfl
  have i0 : (ps.set m ⟨A', c', es, ⟨0, 0, 0⟩⟩)[m]? = some ⟨A', c', es, ⟨0, 0, 0⟩⟩ := List.getElem?_set_self hkl
  have a1 := put_n (j := 1) (q := ⟨A', c', es, ⟨m1, 0, 0⟩⟩) (u := .int .i64 m1) (by simp) a0 i0 (by omega) rfl
  rw [List.set_set] at a1
  have i1 : (ps.set m ⟨A', c', es, ⟨m1, 0, 0⟩⟩)[m]? = some ⟨A', c', es, ⟨m1, 0, 0⟩⟩ := List.getElem?_set_self hkl
  have a2 := put_n (j := 2) (q := ⟨A', c', es, ⟨m1, m2, 0⟩⟩) (u := .int .i64 m2) (by simp) a1 i1 (by omega) rfl
  rw [List.set_set] at a2
  have i2 : (ps.set m ⟨A', c', es, ⟨m1, m2, 0⟩⟩)[m]? = some ⟨A', c', es, ⟨m1, m2, 0⟩⟩ := List.getElem?_set_self hkl
  have a3 := put_n (j := 3) (q := ⟨A', c', es, ⟨m1, m2, m3⟩⟩) (u := .int .i64 m3) (by simp) a2 i2 (by omega) rfl
  rw [List.set_set] at a3
  rw [Nat.add_zero] at a3
  have hb4 : But (fun j => j = g7) w ((((w.setCell ⟨g7, m * 4, none⟩ (.slice A' es.length c')).setCell ⟨g7, m * 4 + 1, none⟩ (.int .i64 m1)).setCell ⟨g7, m * 4 + 2, none⟩ (.int .i64 m2)).setCell ⟨g7, m * 4 + 3, none⟩ (.int .i64 m3)) :=
    ((((But.refl (fun j => j = g7) w).set (p := ⟨g7, m * 4, none⟩) (.inr rfl) _).set (p := ⟨g7, m * 4 + 1, none⟩) (.inr rfl) _).set (p := ⟨g7, m * 4 + 2, none⟩) (.inr rfl) _).set (p := ⟨g7, m * 4 + 3, none⟩) (.inr rfl) _
  generalize ((((w.setCell ⟨g7, m * 4, none⟩ (.slice A' es.length c')).setCell ⟨g7, m * 4 + 1, none⟩ (.int .i64 m1)).setCell ⟨g7, m * 4 + 2, none⟩ (.int .i64 m2)).setCell ⟨g7, m * 4 + 3, none⟩ (.int .i64 m3)) = W at *
  have hTg : ¬ T = g7 := fun e => by subst e; exact type_ne hh7 h.t n1
  have ht := set_blk (hb4.blk h.t hTg) 1 (.slice (some ⟨g7, 0, none⟩) ps.length c7)
  have hb5 : But (fun j => j = g7 ∨ j = T) w (W.setCell ⟨T, 1, none⟩ (.slice (some ⟨g7, 0, none⟩) ps.length c7)) := (hb4.mono (T := fun j => j = g7 ∨ j = T) fun _ _ e => .inl e).set (p := ⟨T, 1, none⟩) (.inr (.inr rfl)) _
  have hrow : ∀ (A : Option Addr) (c : Nat) (es : List Ev), OwnL 32 7 Ev.cells w base (.slice A es.length c) es → OwnL 32 7 Ev.cells (W.setCell ⟨T, 1, none⟩ (.slice (some ⟨g7, 0, none⟩) ps.length c7)) base (.slice A es.length c) es := by
    intro A c es hr
    refine hr.but' hb5 fun k hk e => ?_
    obtain ⟨_, _, cs, h3⟩ := hr.blk hk
    rcases e with rfl | rfl
    · exact type_ne hh7 h3 n2
    · exact type_ne h.t h3 n3
  refine ⟨⟨h.hT, Nat.le_trans hB hg7, ?_, ?_, fun r hr => ?_⟩, hb5⟩
  · rw [ht]
    simp
  · rw [List.length_set]
    refine (a3.but' ((But.refl (fun j => j = T) W).set (p := ⟨T, 1, none⟩) (.inr rfl) _) fun k hk e => ?_).mono hB
    subst e
    obtain ⟨_, _, cs, h3⟩ := a3.blk hk
    exact type_ne h3 (hb4.blk h.t hTg) n1
  · rcases List.mem_or_eq_of_mem_set hr with h1 | h1
    · exact hrow _ _ _ (h.o r h1)
    · subst h1
      exact hrow _ _ _ ho
set_option maxRecDepth 100000 in
set_option maxHeartbeats 2000000 in
theorem take17_any {w : World} {base T g c : Nat} {ps : List PeerM} (h : TabAt 77 79 w base T g c ps) (m : Nat) (h2 : 1 ≤ m) (hl : ps.length ≤ 6) (hp : ps[m]? = some peer0) (es : List Ev) (A : Option Addr) (ce B : Nat) (hB : B ≤ w.heap.size) (hb : base ≤ w.heap.size)
    (hs : Sl Ev.cells 7 w B A es) (hel : es.length ≤ 8000) (wx wy wz : Int) :
    Calls Tryd.prog 29 #[.pointer (some ⟨T, 0, none⟩), .int .i64 ((m : Int) + 1), .agg #[.int .i64 0, .int .i64 es.length, .slice A es.length ce, .int .i64 wx, .int .i64 wy, .int .i64 wz]] w
      fun e w' => e = .returned (.bool true) ∧ (∃ g' c' A' cp, TabAt 77 79 w' base T g' c' (ps.set m ⟨A', cp, es, stMax ⟨0, 0, 0⟩ ⟨wx, wy, wz⟩⟩)) ∧ But (fun j => j = T) w w' := by
  have hkl : m < ps.length := (List.getElem?_eq_some_iff.1 hp).1
  have ht := h
  have hTl : T < w.heap.size := blk_lt h.t
  go_enter Tryd.func29, Tryd.ntmps29
  go_wp2_with fail
  generalize hW0 : w.alloc (.cells #[.int .i64 0, .int .i64 es.length, .slice A es.length ce, .int .i64 wx, .int .i64 wy, .int .i64 wz] 67) = W0
  have hz : w.heap.size + 0 < W0.heap.size := by rw [← hW0]; simp
  have hG0 : G w W0 := by rw [← hW0]; exact G.new _ _
  have r0 : W0.cell? ⟨w.heap.size, 0, none⟩ = some (.int .i64 0) := by rw [← hW0]; simp
  have r1 : W0.cell? ⟨w.heap.size, 1, none⟩ = some (.int .i64 es.length) := by rw [← hW0]; simp
  have r2 : W0.cell? ⟨w.heap.size, 2, none⟩ = some (.slice A es.length ce) := by rw [← hW0]; simp
  have r3 : W0.cell? ⟨w.heap.size, 3, none⟩ = some (.int .i64 wx) := by rw [← hW0]; simp
  have r4 : W0.cell? ⟨w.heap.size, 4, none⟩ = some (.int .i64 wy) := by rw [← hW0]; simp
  have r5 : W0.cell? ⟨w.heap.size, 5, none⟩ = some (.int .i64 wz) := by rw [← hW0]; simp
  clear hW0
  have q0 : ∀ w', G W0 w' → w'.cell? ⟨w.heap.size, 0, none⟩ = some (.int .i64 0) := fun w' h => (h.cell (by omega)).trans r0
  have q1 : ∀ w', G W0 w' → w'.cell? ⟨w.heap.size, 1, none⟩ = some (.int .i64 es.length) := fun w' h => (h.cell (by omega)).trans r1
  have q2 : ∀ w', G W0 w' → w'.cell? ⟨w.heap.size, 2, none⟩ = some (.slice A es.length ce) := fun w' h => (h.cell (by omega)).trans r2
  have q3 : ∀ w', G W0 w' → w'.cell? ⟨w.heap.size, 3, none⟩ = some (.int .i64 wx) := fun w' h => (h.cell (by omega)).trans r3
  have q4 : ∀ w', G W0 w' → w'.cell? ⟨w.heap.size, 4, none⟩ = some (.int .i64 wy) := fun w' h => (h.cell (by omega)).trans r4
  have q5 : ∀ w', G W0 w' → w'.cell? ⟨w.heap.size, 5, none⟩ = some (.int .i64 wz) := fun w' h => (h.cell (by omega)).trans r5
  clear r0 r1 r2 r3 r4 r5
  replace h := Lib.hid (fun w' (hg : G W0 w') => ht.grow (hG0.trans hg))
  have hoth : ∀ w', G W0 w' → Calls Tryd.prog 44 #[.pointer (some ⟨T, 0, none⟩), .int .i64 ((m : Int) + 1)] w' fun e w'' => e = .returned (.bool true) ∧ w' = w'' := fun w' hg => by
    have := other17_any (h.out w' hg) (m + 1) (by omega) hl
    rwa [decide_eq_true ⟨by omega, by omega⟩, show (((m + 1 : Nat) : Int)) = (m : Int) + 1 by omega] at this
  have hnxt : ∀ w', G W0 w' → Calls Tryd.prog 45 #[.pointer (some ⟨T, 0, none⟩), .int .i64 ((m : Int) + 1)] w' fun e w'' => e = .returned (.int .i64 0) ∧ w' = w'' := fun w' hg => next17_any (h.out w' hg) m h2 hl hp
  replace hoth := Lib.hid hoth
  replace hnxt := Lib.hid hnxt
  have r1 : ∀ w', G W0 w' → w'.cell? ⟨T, 1, none⟩ = some (.slice (some ⟨g, 0, none⟩) ps.length c) := fun w' hg => (h.out w' hg).row
  have hwr : IntKind.i64.wrap (es.length : Int) = es.length := by rw [IntKind.wrap_i64]; omega
  have hw1 : IntKind.i64.wrap ((m : Int) + 1 - 1) = m := by rw [IntKind.wrap_i64]; omega
  have hd : ∀ w', G W0 w' → w'.cell? ⟨g, m * 4, none⟩ = some (.slice none 0 0) ∧ w'.cell? ⟨g, m * 4 + 1, none⟩ = some (.int .i64 0) ∧ w'.cell? ⟨g, m * 4 + 2, none⟩ = some (.int .i64 0) ∧ w'.cell? ⟨g, m * 4 + 3, none⟩ = some (.int .i64 0) := fun w' hg => (h.out w' hg).cells hp
  have hno : A = none → es = [] := fun e => by have := hs; rw [e] at this; exact this.of_none
  replace hno := Lib.hid hno
  replace hs := Lib.hid hs
  clear ht
  go_wp2_with fail
  go_region_held3 (fun w' => G W0 w') (first | exact (G.refl _).drew | assumption | fail)
    (first
      | (go_at_call 44; (with_reducible refine Calls.mono (hoth.out _ (by assumption)) ?_); rintro e wm ⟨rfl, rfl⟩)
      | (go_at_call 45; (with_reducible refine Calls.mono (hnxt.out _ (by assumption)) ?_); rintro e wm ⟨rfl, rfl⟩))
  have hgd : G W0 W0.drew := (G.refl _).drew
  clear hoth hnxt
  generalize W0.drew = W1 at *
  have r1' := r1 _ hgd
  obtain ⟨d0, d1, d2, d3⟩ := hd _ hgd
  have n1 : (0 : Int) ≤ (m : Int) := by omega
  have n2 : (m : Int) < (ps.length : Int) := by omega
  go_wp2_with fail
  have hP : (W1.alloc (.cells #[.slice none 0 0, .int .i64 0, .int .i64 0, .int .i64 0] 79)).heap[W1.heap.size]? = some (.cells #[.slice none 0 0, .int .i64 0, .int .i64 0, .int .i64 0] 79 (0, 0)) := blk_new _ _ _
  have hGP : G W0 (W1.alloc (.cells #[.slice none 0 0, .int .i64 0, .int .i64 0, .int .i64 0] 79)) := hgd.alloc _
  have hPz : W0.heap.size ≤ W1.heap.size := hgd.size
  generalize W1.alloc (.cells #[.slice none 0 0, .int .i64 0, .int .i64 0, .int .i64 0] 79) = W2 at *
  generalize W1.heap.size = P at *
  clear r1' d0 d1 d2 d3 hgd
  go_cut [] (fun wx => ∃ A' c', wx.heap[P]? = some (.cells #[.slice A' es.length c', .int .i64 0, .int .i64 0, .int .i64 0] 79 (0, 0)) ∧ G W0 wx ∧ OwnL 32 7 Ev.cells wx W0.heap.size (.slice A' es.length c') es)
  case first =>
    have p0b := (blk_cell hP 0).trans (show _ = some (Value.slice none 0 0) from rfl)
    have p2b := q2 _ hGP
    have p2 : ∀ o, (W2.alloc o).cell? ⟨w.heap.size, 2, none⟩ = some (.slice A es.length ce) := fun o => q2 _ (hGP.alloc o)
    have p0 : ∀ o, (W2.alloc o).cell? ⟨P, 0, none⟩ = some (.slice none 0 0) := fun o => (blk_cell ((G.new W2 o).blk hP) 0).trans (show _ = some (Value.slice none 0 0) from rfl)
    have hrow0 := fun w' hg => hs.out.g (w' := w') hB (hG0.trans hg)
    have hgE : G W0 (W2.alloc (.cells #[] 32)).drew := (hGP.alloc _).drew
    have hPE := (G.new W2 (.cells #[] 32)).drew.blk hP
    replace hPE := Lib.hid hPE
    clear q0 q1 q3 q4 q5 r1 hd
    replace q2 := Lib.hid q2
    go_region_law (first
      | (refine step_append_list ev_elem _ (by kernel_rfl) (.tmp 43) (.tmp 45) rfl W2.heap.size _ [] rfl (OwnL.empty W2.heap.size (blk_new W2 _ _) (Nat.le_refl _)) B A ce es rfl hno.out (hrow0 _ hgE) (by simp; omega) (by simp; omega) (by show _ ≤ ((W2.alloc _).heap.size); simp) ?_; intro v4 w4 hown4 hk4 _; rw [List.nil_append] at hown4; obtain ⟨A', c', e, _, _, _⟩ := OwnL.sl Ev.cells_len hown4; subst e; have hg4 : G W2 w4 := hk4.g (G.new W2 _).drew; have hP4 := hg4.blk hP; have z0 : w4.frozen? ⟨P, 0, none⟩ = false := (by simp [World.frozen?, hP4]); have z1 := (blk_cell hP4 0).trans (show _ = some (Value.slice none 0 0) from rfl); replace hP4 := Lib.hid hP4; replace hg4 := Lib.hid hg4; replace hown4 := Lib.hid hown4; clear hk4))
    all_goals
      go_wp2_with fail
      go_meet
      have hb := set_blk hP4.out 0 (.slice A' es.length c')
      have hset := hg4.out.set (p := ⟨P, 0, none⟩) (u := .slice A' es.length c')
      have hPl := blk_lt hP
      refine ⟨A', c', hb, (hGP.trans hg4.out).set hPz _, ((hown4.out.but' (S := fun j => j = P) ((But.refl (fun j => j = P) _).set (p := ⟨P, 0, none⟩) (.inr rfl) _) fun k hk e => ?_).mono hGP.size)⟩
      have := (hown4.out.blk hk).1
      omega
  case rest =>
    obtain ⟨A', c', hPc, hgc, hownc⟩ := hcut
    have hwc := hgc.size
    have f1 := q1 _ hgc
    have f3 := q3 _ hgc
    have f4 := q4 _ hgc
    have f5 := q5 _ hgc
    have p0 := (blk_cell hPc 0).trans (show _ = some (Value.slice A' es.length c') from rfl)
    have p1 := (blk_cell hPc 1).trans (show _ = some (Value.int .i64 0) from rfl)
    have p2 := (blk_cell hPc 2).trans (show _ = some (Value.int .i64 0) from rfl)
    have p3 := (blk_cell hPc 3).trans (show _ = some (Value.int .i64 0) from rfl)
    have hmx : stMax ⟨0, 0, 0⟩ ⟨wx, wy, wz⟩ = if stLt ⟨0, 0, 0⟩ ⟨wx, wy, wz⟩ = true then ⟨wx, wy, wz⟩ else ⟨0, 0, 0⟩ := rfl
    replace hmx := Lib.hid hmx
    replace hP := Lib.hid hP
    clear hGP
    go_wp2_with fail
    refine (refLess_any _ _ _ _ _ _ _).mono ?_
    rintro e w2 ⟨rfl, hg2⟩
    have hP2 := hg2.blk hPc
    have hown2 := hownc.g hg2
    have hgw2 := hgc.trans hg2
    have f3 := q3 _ hgw2
    have f4 := q4 _ hgw2
    have f5 := q5 _ hgw2
    have p0 := (blk_cell hP2 0).trans (show _ = some (Value.slice A' es.length c') from rfl)
    have p1 := (blk_cell hP2 1).trans (show _ = some (Value.int .i64 0) from rfl)
    have p2 := (blk_cell hP2 2).trans (show _ = some (Value.int .i64 0) from rfl)
    have p3 := (blk_cell hP2 3).trans (show _ = some (Value.int .i64 0) from rfl)
    have z1 : w2.frozen? ⟨P, 1, none⟩ = false := by simp [World.frozen?, hP2]
    have z2 : w2.frozen? ⟨P, 2, none⟩ = false := by simp [World.frozen?, hP2]
    have z3 : w2.frozen? ⟨P, 3, none⟩ = false := by simp [World.frozen?, hP2]
    clear hPc hgc hownc hg2 q0 q1 q2 q3 q4 q5
    cases hlt : stLt ⟨0, 0, 0⟩ ⟨wx, wy, wz⟩ with
    | true =>
      rw [hlt] at hmx
      have s1 := set_blk hP2 1 (.int .i64 wx)
      have s2 := set_blk s1 2 (.int .i64 wy)
      have s3 := (set_blk s2 3 (.int .i64 wz)).trans (show _ = some (Obj.cells #[.slice A' es.length c', .int .i64 wx, .int .i64 wy, .int .i64 wz] 79 (0, 0)) from rfl)
      have hgX := (((hgw2.set (p := ⟨P, 1, none⟩) hPz (.int .i64 wx)).set (p := ⟨P, 2, none⟩) hPz (.int .i64 wy)).set (p := ⟨P, 3, none⟩) hPz (.int .i64 wz))
      have hbX := (((But.refl (fun j => j = P) w2).set (p := ⟨P, 1, none⟩) (.inr rfl) (.int .i64 wx)).set (p := ⟨P, 2, none⟩) (.inr rfl) (.int .i64 wy)).set (p := ⟨P, 3, none⟩) (.inr rfl) (.int .i64 wz)
      have hmx : stMax ⟨0, 0, 0⟩ ⟨wx, wy, wz⟩ = ⟨wx, wy, wz⟩ := by rw [hmx.out]; rfl
      replace hmx := Lib.hid hmx
      have hoX := hown2.but' hbX fun k hk e => ?own
      case own =>
        subst e
        obtain ⟨_, _, cs, hx⟩ := hown2.blk hk
        rw [hP2] at hx
        simp only [Option.some.injEq, Obj.cells.injEq] at hx
        exact absurd hx.2.1 (by decide)
      clear s1 s2 hbX
      replace s3 := Lib.hid s3
      replace hgX := Lib.hid hgX
      replace hoX := Lib.hid hoX
      go_upto_region 7 with fail
      generalize (((w2.setCell ⟨P, 1, none⟩ (.int .i64 wx)).setCell ⟨P, 2, none⟩ (.int .i64 wy)).setCell ⟨P, 3, none⟩ (.int .i64 wz)) = WX at *
      have htX := h.out _ hgX.out
      have hrX : ∀ o, (WX.alloc o).cell? ⟨T, 1, none⟩ = some (.slice (some ⟨g, 0, none⟩) ps.length c) := fun o => (htX.grow (G.new _ _)).row
      have hrow := htX.p.self PeerM.cells_len
      have hgl2 := blk_lt htX.gblk.choose_spec
      clear hown2 hP2 hgw2 p0 p1 p2 p3 z1 z2 z3 f1 f3 f4 f5
      replace htX := Lib.hid htX
      go_wp2_with (at_builtin; refine wpList_append_list peer17_elem _ rfl (.tmp 64) (.tmp 68) rfl WX.heap.size _ [] rfl (OwnL.empty WX.heap.size (blk_new WX _ _) (Nat.le_refl _)) WX.heap.size (some ⟨g, 0, none⟩) c ps rfl (by intro h; cases h) (hrow.g (Nat.le_refl _) (G.new WX _)) (by simp; omega) (by simp; omega) (by simp) ?_; intro v7 w7 hown7 hk7 _; rw [List.nil_append] at hown7; have hg7 : G WX w7 := hk7.g (G.new WX _); clear hk7; obtain ⟨g7, c7, rfl, hb7, cs7, hh7⟩ := own_blk7 hown7 hp; obtain ⟨k0, k1, k2, k3⟩ := own_cells7 hown7 hp; have z0 := own_free hh7 (m * 4); have z1 := own_free hh7 (m * 4 + 1); have z2 := own_free hh7 (m * 4 + 2); have z3 := own_free hh7 (m * 4 + 3); have hP7 := hg7.blk s3.out; have p0 := (blk_cell hP7 0).trans (show _ = some (Value.slice A' es.length c') from rfl); have p1 := (blk_cell hP7 1).trans (show _ = some (Value.int .i64 wx) from rfl); have p2 := (blk_cell hP7 2).trans (show _ = some (Value.int .i64 wy) from rfl); have p3 := (blk_cell hP7 3).trans (show _ = some (Value.int .i64 wz) from rfl); have hT7 := (h.out _ (hgX.out.trans hg7)).t; have t1 := (blk_cell hT7 1).trans (show _ = some (Value.slice (some ⟨g, 0, none⟩) ps.length c) from rfl); have zT := own_free hT7 1; have hTg : ¬ T = g7 := (by have := hgX.out.size; have := hG0.size; omega); have hTg' : ¬ g7 = T := (fun e => hTg e.symm); replace hown7 := Lib.hid hown7; replace hh7 := Lib.hid hh7; replace hP7 := Lib.hid hP7; replace hT7 := Lib.hid hT7; replace hg7 := Lib.hid hg7; have m1 : (0 : Int) ≤ (m : Int) := (by omega); have m2 : (m : Int) < (ps.length : Int) := (by omega))
      go_ret
      obtain ⟨k9, kb9⟩ := tab_moved (h.out _ (hgX.out.trans hg7.out)) hown7.out (Nat.le_trans hb (hG0.trans hgX.out).size) hp A' c' es wx wy wz ((hoX.out.g hg7.out).mono (Nat.le_trans hb hG0.size)) (by decide) (by decide) (by decide)
      refine ⟨rfl, ⟨_, _, A', c', by rw [hmx.out]; exact k9⟩, (But.of_g (hG0.trans (hgX.out.trans hg7.out))).trans2 kb9 ?_⟩
      rintro j (rfl | rfl)
      · exact .inl (Nat.le_trans (hG0.trans hgX.out).size (by omega))
      · exact .inr rfl
    | false =>
      rw [hlt] at hmx
      have s3 := hP2
      have hgX := hgw2
      have hoX := hown2
      have hmx : stMax ⟨0, 0, 0⟩ ⟨wx, wy, wz⟩ = ⟨0, 0, 0⟩ := by rw [hmx.out]; rfl
      replace hmx := Lib.hid hmx
      replace s3 := Lib.hid s3
      replace hgX := Lib.hid hgX
      replace hoX := Lib.hid hoX
      go_upto_region 7 with fail
      generalize w2 = WX at *
      have htX := h.out _ hgX.out
      have hrX : ∀ o, (WX.alloc o).cell? ⟨T, 1, none⟩ = some (.slice (some ⟨g, 0, none⟩) ps.length c) := fun o => (htX.grow (G.new _ _)).row
      have hrow := htX.p.self PeerM.cells_len
      have hgl2 := blk_lt htX.gblk.choose_spec
      clear hown2 hP2 hgw2 p0 p1 p2 p3 z1 z2 z3 f1 f3 f4 f5
      replace htX := Lib.hid htX
      go_wp2_with (at_builtin; refine wpList_append_list peer17_elem _ rfl (.tmp 64) (.tmp 68) rfl WX.heap.size _ [] rfl (OwnL.empty WX.heap.size (blk_new WX _ _) (Nat.le_refl _)) WX.heap.size (some ⟨g, 0, none⟩) c ps rfl (by intro h; cases h) (hrow.g (Nat.le_refl _) (G.new WX _)) (by simp; omega) (by simp; omega) (by simp) ?_; intro v7 w7 hown7 hk7 _; rw [List.nil_append] at hown7; have hg7 : G WX w7 := hk7.g (G.new WX _); clear hk7; obtain ⟨g7, c7, rfl, hb7, cs7, hh7⟩ := own_blk7 hown7 hp; obtain ⟨k0, k1, k2, k3⟩ := own_cells7 hown7 hp; have z0 := own_free hh7 (m * 4); have z1 := own_free hh7 (m * 4 + 1); have z2 := own_free hh7 (m * 4 + 2); have z3 := own_free hh7 (m * 4 + 3); have hP7 := hg7.blk s3.out; have p0 := (blk_cell hP7 0).trans (show _ = some (Value.slice A' es.length c') from rfl); have p1 := (blk_cell hP7 1).trans (show _ = some (Value.int .i64 0) from rfl); have p2 := (blk_cell hP7 2).trans (show _ = some (Value.int .i64 0) from rfl); have p3 := (blk_cell hP7 3).trans (show _ = some (Value.int .i64 0) from rfl); have hT7 := (h.out _ (hgX.out.trans hg7)).t; have t1 := (blk_cell hT7 1).trans (show _ = some (Value.slice (some ⟨g, 0, none⟩) ps.length c) from rfl); have zT := own_free hT7 1; have hTg : ¬ T = g7 := (by have := hgX.out.size; have := hG0.size; omega); have hTg' : ¬ g7 = T := (fun e => hTg e.symm); replace hown7 := Lib.hid hown7; replace hh7 := Lib.hid hh7; replace hP7 := Lib.hid hP7; replace hT7 := Lib.hid hT7; replace hg7 := Lib.hid hg7; have m1 : (0 : Int) ≤ (m : Int) := (by omega); have m2 : (m : Int) < (ps.length : Int) := (by omega))
      go_ret
      obtain ⟨k9, kb9⟩ := tab_moved (h.out _ (hgX.out.trans hg7.out)) hown7.out (Nat.le_trans hb (hG0.trans hgX.out).size) hp A' c' es 0 0 0 ((hoX.out.g hg7.out).mono (Nat.le_trans hb hG0.size)) (by decide) (by decide) (by decide)
      refine ⟨rfl, ⟨_, _, A', c', by rw [hmx.out]; exact k9⟩, (But.of_g (hG0.trans (hgX.out.trans hg7.out))).trans2 kb9 ?_⟩
      rintro j (rfl | rfl)
      · exact .inl (Nat.le_trans (hG0.trans hgX.out).size (by omega))
      · exact .inr rfl
end Go.Proofs.YthhhobfdlgmjlaaDoor
