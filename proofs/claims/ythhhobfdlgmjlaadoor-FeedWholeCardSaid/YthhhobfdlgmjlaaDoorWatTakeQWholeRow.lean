/- water's Take: a node's first events. Conditions: at most six nodes, at most 8000 events. -/
import Derived.Test.YthhhobfdlgmjlaaDoorM31WholeRow
import Derived.Deep.RegionLaw
namespace Go.Proofs.YthhhobfdlgmjlaaDoor
open Go.RowKit

theorem set_blk {w : World} {g : Nat} {cur : Array Value} {t : TypeId} (h : w.heap[g]? = some (.cells cur t (0, 0))) (i : Nat) (u : Value) : (w.setCell ⟨g, i, none⟩ u).heap[g]? = some (.cells (cur.setIfInBounds i u) t (0, 0)) := by
  rw [setCell_eq_setRow w g i cur t (0, 0) u h]
  exact setRow_heap w g cur _ t _ h
section
variable {tT tP : TypeId} {w w' : World} {base T g c : Nat} {ps : List PeerM}
theorem TabAt.gblk (h : TabAt tT tP w base T g c ps) : ∃ cs, w.heap[g]? = some (.cells cs tP (0, 0)) := (h.p.blk rfl).2.2
theorem TabAt.but {S : Nat → Prop} (h : TabAt tT tP w base T g c ps) (hb : But S w w') (hS : ∀ j, S j → ∃ cs t, w.heap[j]? = some (.cells cs t (0, 0)) ∧ t ≠ tT ∧ t ≠ tP ∧ t ≠ 32) : TabAt tT tP w' base T g c ps := by
  refine ⟨h.hT, h.hg, hb.blk h.t fun e => ?_, h.p.but' hb fun k hk e => ?_, fun q hq => (h.o q hq).but' hb fun k hk e => ?_⟩
  · obtain ⟨cs, t, h1, h2, _⟩ := hS _ e
    rw [h.t] at h1
    simp only [Option.some.injEq, Obj.cells.injEq] at h1
    exact h2 h1.2.1.symm
  · obtain ⟨cs, t, h1, _, h2, _⟩ := hS _ e
    obtain ⟨_, _, cs', h3⟩ := h.p.blk hk
    rw [h3] at h1
    simp only [Option.some.injEq, Obj.cells.injEq] at h1
    exact h2 h1.2.1.symm
  · obtain ⟨cs, t, h1, _, _, h2⟩ := hS _ e
    obtain ⟨_, _, cs', h3⟩ := (h.o q hq).blk hk
    rw [h3] at h1
    simp only [Option.some.injEq, Obj.cells.injEq] at h1
    exact h2 h1.2.1.symm
/-- A cell of a peer is laid anew. -/
theorem TabAt.put (h : TabAt tT tP w base T g c ps) (n1 : tP ≠ tT) (n2 : tP ≠ 32) {k j : Nat} {p q : PeerM} {u : Value} (hp : ps[k]? = some p) (hj : j < 4) (hq : q.cells = p.cells.set j u)
    (ho : OwnL 32 7 Ev.cells w base (.slice q.A q.es.length q.c) q.es) : TabAt tT tP (w.setCell ⟨g, k * 4 + j, none⟩ u) base T g c (ps.set k q) := by
  have hb : But (fun i => i = g) w (w.setCell ⟨g, k * 4 + j, none⟩ u) := (But.refl (fun i => i = g) w).set (p := ⟨g, k * 4 + j, none⟩) (.inr rfl) u
  obtain ⟨cs, hg⟩ := h.gblk
  have hl : (ps.set k q).length = ps.length := by simp
  have hown : ∀ r : PeerM, OwnL 32 7 Ev.cells w base (.slice r.A r.es.length r.c) r.es → OwnL 32 7 Ev.cells (w.setCell ⟨g, k * 4 + j, none⟩ u) base (.slice r.A r.es.length r.c) r.es := by
    intro r hr
    refine hr.but' hb fun i hi e => ?_
    subst e
    obtain ⟨_, _, cs', h3⟩ := hr.blk hi
    rw [hg] at h3
    simp only [Option.some.injEq, Obj.cells.injEq] at h3
    exact n2 h3.2.1
  refine ⟨h.hT, h.hg, ?_, ?_, fun r hr => ?_⟩
  · rw [hl]
    refine hb.blk h.t fun e => ?_
    have h1 := h.t
    rw [e, hg] at h1
    simp only [Option.some.injEq, Obj.cells.injEq] at h1
    exact n1 h1.2.1
  · rw [hl]
    exact h.p.put PeerM.cells_len hp hj hq
  · rcases List.mem_or_eq_of_mem_set hr with h1 | h1
    · exact hown r (h.o r h1)
    · subst h1
      exact hown _ ho
end
set_option maxRecDepth 100000 in
set_option maxHeartbeats 2000000 in
theorem watTake_any {w : World} {base T g c : Nat} {ps : List PeerM} (h : TabAt 93 98 w base T g c ps) (k : Nat) (h2 : 2 ≤ k) (hl : ps.length ≤ 6) (hp : ps[k]? = some peer0) (es : List Ev) (A : Option Addr) (ce B : Nat) (hB : B ≤ w.heap.size) (hb : base ≤ w.heap.size)
    (hs : Sl Ev.cells 7 w B A es) (hel : es.length ≤ 8000) (wx wy wz : Int) :
    Calls Tryd.prog 28 #[.pointer (some ⟨T, 0, none⟩), .int .i64 k, .agg #[.int .i64 0, .int .i64 es.length, .slice A es.length ce, .int .i64 wx, .int .i64 wy, .int .i64 wz, .slice none 0 0]] w
      fun e w' => e = .returned (.bool true) ∧ (∃ A' c', TabAt 93 98 w' base T g c (ps.set k ⟨A', c', es, stMax ⟨0, 0, 0⟩ ⟨wx, wy, wz⟩⟩)) ∧ But (fun j => j = g) w w' := by
  have hkl : k < ps.length := (List.getElem?_eq_some_iff.1 hp).1
  have ht := h
  have hgl : g < w.heap.size := blk_lt h.gblk.choose_spec
  go_enter Tryd.func28, Tryd.ntmps28
  go_wp2_with fail
  generalize hW0 : w.alloc (.cells #[.int .i64 0, .int .i64 es.length, .slice A es.length ce, .int .i64 wx, .int .i64 wy, .int .i64 wz, .slice none 0 0] 63) = W0
  have hz : w.heap.size + 0 < W0.heap.size := by rw [← hW0]; simp
  have hG0 : G w W0 := by rw [← hW0]; exact G.new _ _
  have r0 : W0.cell? ⟨w.heap.size, 0, none⟩ = some (.int .i64 0) := by rw [← hW0]; simp
  have r1 : W0.cell? ⟨w.heap.size, 1, none⟩ = some (.int .i64 es.length) := by rw [← hW0]; simp
  have r2 : W0.cell? ⟨w.heap.size, 2, none⟩ = some (.slice A es.length ce) := by rw [← hW0]; simp
  have r3 : W0.cell? ⟨w.heap.size, 3, none⟩ = some (.int .i64 wx) := by rw [← hW0]; simp
  have r4 : W0.cell? ⟨w.heap.size, 4, none⟩ = some (.int .i64 wy) := by rw [← hW0]; simp
  have r5 : W0.cell? ⟨w.heap.size, 5, none⟩ = some (.int .i64 wz) := by rw [← hW0]; simp
  have r6 : W0.cell? ⟨w.heap.size, 6, none⟩ = some (.slice none 0 0) := by rw [← hW0]; simp
  clear hW0
  have q0 : ∀ w', G W0 w' → w'.cell? ⟨w.heap.size, 0, none⟩ = some (.int .i64 0) := fun w' h => (h.cell (by omega)).trans r0
  have q1 : ∀ w', G W0 w' → w'.cell? ⟨w.heap.size, 1, none⟩ = some (.int .i64 es.length) := fun w' h => (h.cell (by omega)).trans r1
  have q2 : ∀ w', G W0 w' → w'.cell? ⟨w.heap.size, 2, none⟩ = some (.slice A es.length ce) := fun w' h => (h.cell (by omega)).trans r2
  have q3 : ∀ w', G W0 w' → w'.cell? ⟨w.heap.size, 3, none⟩ = some (.int .i64 wx) := fun w' h => (h.cell (by omega)).trans r3
  have q4 : ∀ w', G W0 w' → w'.cell? ⟨w.heap.size, 4, none⟩ = some (.int .i64 wy) := fun w' h => (h.cell (by omega)).trans r4
  have q5 : ∀ w', G W0 w' → w'.cell? ⟨w.heap.size, 5, none⟩ = some (.int .i64 wz) := fun w' h => (h.cell (by omega)).trans r5
  have q6 : ∀ w', G W0 w' → w'.cell? ⟨w.heap.size, 6, none⟩ = some (.slice none 0 0) := fun w' h => (h.cell (by omega)).trans r6
  clear r0 r1 r2 r3 r4 r5 r6
  replace h := Lib.hid (fun w' (hg : G W0 w') => ht.grow (hG0.trans hg))
  have hoth : ∀ w', G W0 w' → Calls Tryd.prog 41 #[.pointer (some ⟨T, 0, none⟩), .int .i64 k] w' fun e w'' => e = .returned (.bool true) ∧ w' = w'' := fun w' hg => by
    have := watOther_any (h.out w' hg) k (by omega) hl
    rwa [decide_eq_true ⟨h2, hkl⟩] at this
  have hnxt : ∀ w', G W0 w' → Calls Tryd.prog 42 #[.pointer (some ⟨T, 0, none⟩), .int .i64 k] w' fun e w'' => e = .returned (.int .i64 0) ∧ w' = w'' := fun w' hg => watNext_any (h.out w' hg) k h2 hl hp
  replace hoth := Lib.hid hoth
  replace hnxt := Lib.hid hnxt
  have r1 : ∀ w', G W0 w' → w'.cell? ⟨T, 1, none⟩ = some (.slice (some ⟨g, 0, none⟩) ps.length c) := fun w' hg => (h.out w' hg).row
  have hwr : IntKind.i64.wrap (es.length : Int) = es.length := by rw [IntKind.wrap_i64]; omega
  have hd := fun w' hg => (h.out w' hg).cells hp
  replace hs := Lib.hid hs
  clear ht
  go_wp2_with fail
  go_region_held3 (fun w' => G W0 w') (first | exact (G.refl _).drew | assumption | fail)
    (first
      | (go_at_call 41; (with_reducible refine Calls.mono (hoth.out _ (by assumption)) ?_); rintro e wm ⟨rfl, rfl⟩)
      | (go_at_call 42; (with_reducible refine Calls.mono (hnxt.out _ (by assumption)) ?_); rintro e wm ⟨rfl, rfl⟩))
  have hgd : G W0 W0.drew := (G.refl _).drew
  clear hoth hnxt
  go_wp2_with fail
  generalize W0.drew = W1 at *
  go_cut [] (fun wx => (∃ A' c', TabAt 93 98 wx base T g c (ps.set k ⟨A', c', es, ⟨0, 0, 0⟩⟩)) ∧ But (fun j => j = g) W0 wx)
  case first =>
    have e2 := q2 _ hgd
    obtain ⟨d0, _, _, _⟩ := hd _ hgd
    rw [show (peer0.es.length = 0) from rfl, show peer0.A = none from rfl, show peer0.c = 0 from rfl] at d0
    clear q0 q1 q2 q3 q4 q5 q6 r1
    have hrow0 := hs.out.g hB (hG0.trans hgd.drew)
    have hno : A = none → es = [] := fun e => by have := hs.out; rw [e] at this; exact this.of_none
    replace hno := Lib.hid hno
    go_region_law (refine step_append_list ev_elem _ (by kernel_rfl) (.tmp 41) (.tmp 43) rfl (W1.drew).heap.size _ [] rfl OwnL.nil B A ce es rfl hno.out hrow0 (by simp; omega) (by simp; omega) (Nat.le_refl _) ?_; intro v' w2 hown hkeep _; rw [List.nil_append] at hown; obtain ⟨A', c', e, _, _, _⟩ := OwnL.sl Ev.cells_len hown; subst e; have hg2 : G W0 w2 := hgd.drew.trans (hkeep.g (G.refl _)); have ht2 := h.out w2 hg2; have hpc : w2.cell? ⟨g, k * 4, none⟩ = some (.slice none 0 0) := (ht2.cells hp).1; have hpf : w2.frozen? ⟨g, k * 4, none⟩ = false := (by obtain ⟨cs, hgb⟩ := ht2.gblk; simp [World.frozen?, hgb]); replace ht2 := Lib.hid ht2; replace hown := Lib.hid hown; clear hkeep)
    all_goals
      go_wp2_with fail
      go_meet
      have hq := ht2.out.put (j := 0) (q := ⟨A', c', es, ⟨0, 0, 0⟩⟩) (u := .slice A' es.length c') (by decide) (by decide) hp (by omega) rfl (hown.out.mono (Nat.le_trans hb (hG0.trans hgd).size))
      exact ⟨⟨A', c', by simpa using hq⟩, (But.of_g (S := fun j => j = g) hg2).set (p := ⟨g, k * 4, none⟩) (.inr rfl) _⟩
  case rest =>
    obtain ⟨⟨A', c', ht2⟩, hb2⟩ := hcut
    have hq : ∀ o, wc.cell? ⟨w.heap.size, o, none⟩ = W0.cell? ⟨w.heap.size, o, none⟩ := fun o => hb2.cell hz (by omega)
    have hzc : w.heap.size < wc.heap.size := Nat.lt_of_lt_of_le hz hb2.size
    have f1 : ∀ w', G wc w' → w'.cell? ⟨w.heap.size, 1, none⟩ = some (.int .i64 es.length) := fun w' hg => (hg.cell hzc).trans ((hq 1).trans (q1 W0 (G.refl _)))
    have f3 : ∀ w', G wc w' → w'.cell? ⟨w.heap.size, 3, none⟩ = some (.int .i64 wx) := fun w' hg => (hg.cell hzc).trans ((hq 3).trans (q3 W0 (G.refl _)))
    have f4 : ∀ w', G wc w' → w'.cell? ⟨w.heap.size, 4, none⟩ = some (.int .i64 wy) := fun w' hg => (hg.cell hzc).trans ((hq 4).trans (q4 W0 (G.refl _)))
    have f5 : ∀ w', G wc w' → w'.cell? ⟨w.heap.size, 5, none⟩ = some (.int .i64 wz) := fun w' hg => (hg.cell hzc).trans ((hq 5).trans (q5 W0 (G.refl _)))
    clear q0 q1 q2 q3 q4 q5 q6 hq r1 hd
    have hp2 : (ps.set k ⟨A', c', es, ⟨0, 0, 0⟩⟩)[k]? = some ⟨A', c', es, ⟨0, 0, 0⟩⟩ := List.getElem?_set_self hkl
    have d0 : ∀ w', G wc w' → w'.cell? ⟨g, k * 4, none⟩ = some (.slice A' es.length c') := fun w' hg => ((ht2.grow hg).cells hp2).1
    have d1 : ∀ w', G wc w' → w'.cell? ⟨g, k * 4 + 1, none⟩ = some (.int .i64 0) := fun w' hg => ((ht2.grow hg).cells hp2).2.1
    have d2 : ∀ w', G wc w' → w'.cell? ⟨g, k * 4 + 2, none⟩ = some (.int .i64 0) := fun w' hg => ((ht2.grow hg).cells hp2).2.2.1
    have d3 : ∀ w', G wc w' → w'.cell? ⟨g, k * 4 + 3, none⟩ = some (.int .i64 0) := fun w' hg => ((ht2.grow hg).cells hp2).2.2.2
    replace ht2 := Lib.hid ht2
    replace hp2 := Lib.hid hp2
    go_wp2_with fail
    go_region_held3 (fun w' => G wc w') (first | exact (G.refl _).drew | assumption | fail) (fail)
    have hcd : G wc wc.drew := (G.refl _).drew
    go_wp2_with fail
    generalize wc.drew = W2 at *
    have e0 := d0 _ hcd
    have e1 := d1 _ hcd
    have e2 := d2 _ hcd
    have e3 := d3 _ hcd
    have k3 := f3 _ hcd
    have k4 := f4 _ hcd
    have k5 := f5 _ hcd
    clear d0 d1 d2 d3 f1 f3 f4 f5
    have hmx := fun W hW => max2_any ⟨0, 0, 0⟩ ⟨wx, wy, wz⟩ (some ⟨W2.heap.size, 0, none⟩) 2 (W2.heap.size + 1) W hW
    obtain ⟨⟨m1, m2, m3⟩, hm⟩ : ∃ m, stMax ⟨0, 0, 0⟩ ⟨wx, wy, wz⟩ = m := ⟨_, rfl⟩
    rw [hm] at hmx
    dsimp only at hmx
    replace hmx := Lib.hid hmx
    replace hm := Lib.hid hm
    have hb4 := hb2.g hcd
    have ht4 := ht2.out.grow hcd
    replace ht4 := Lib.hid ht4
    replace hb4 := Lib.hid hb4
    have hcall := hmx.out ((W2.alloc (.cells #[.int .i64 0, .int .i64 0, .int .i64 0, .int .i64 wx, .int .i64 wy, .int .i64 wz] 26)).drew) (by show _ ≤ ((W2.alloc _).heap.size); simp) (Sl.of_blk St.cells_len [⟨0, 0, 0⟩, ⟨wx, wy, wz⟩] (blk_new W2 #[.int .i64 0, .int .i64 0, .int .i64 0, .int .i64 wx, .int .i64 wy, .int .i64 wz] 26) rfl (by simp))
    replace hcall := Lib.hid hcall
    clear hmx
    go_region_law (go_simp; go_at_call 43; refine Calls.mono hcall.out ?_; rintro e w3 ⟨rfl, hg3⟩; have hg3' : G W2 w3 := ((G.new W2 _).drew).trans hg3; have ht3 := ht4.out.grow hg3'; have hfz : ∀ j, w3.frozen? ⟨g, j, none⟩ = false := (fun j => by obtain ⟨cs, hgb⟩ := ht3.gblk; simp [World.frozen?, hgb]); have z1 := hfz (k * 4 + 1); have z2 := hfz (k * 4 + 2); have z3 := hfz (k * 4 + 3); obtain ⟨_, c1, c2, c3⟩ := ht3.cells hp2.out; dsimp only at c1 c2 c3; replace ht3 := Lib.hid ht3; clear hfz hg3)
    all_goals
      go_wp2_with fail
      go_ret
      have p0 := ht3.out.o _ (List.mem_of_getElem? hp2.out)
      have t1 := ht3.out.put (j := 1) (q := ⟨A', c', es, ⟨m1, 0, 0⟩⟩) (u := .int .i64 m1) (by decide) (by decide) hp2.out (by omega) rfl p0
      have g1 : ((ps.set k ⟨A', c', es, ⟨0, 0, 0⟩⟩).set k ⟨A', c', es, ⟨m1, 0, 0⟩⟩)[k]? = some ⟨A', c', es, ⟨m1, 0, 0⟩⟩ := List.getElem?_set_self (by simpa using hkl)
      have p1 := t1.o _ (List.mem_of_getElem? g1)
      have t2 := t1.put (j := 2) (q := ⟨A', c', es, ⟨m1, m2, 0⟩⟩) (u := .int .i64 m2) (by decide) (by decide) g1 (by omega) rfl p1
      have g2 : (((ps.set k ⟨A', c', es, ⟨0, 0, 0⟩⟩).set k ⟨A', c', es, ⟨m1, 0, 0⟩⟩).set k ⟨A', c', es, ⟨m1, m2, 0⟩⟩)[k]? = some ⟨A', c', es, ⟨m1, m2, 0⟩⟩ := List.getElem?_set_self (by simpa using hkl)
      have p2 := t2.o _ (List.mem_of_getElem? g2)
      have t3 := t2.put (j := 3) (q := ⟨A', c', es, ⟨m1, m2, m3⟩⟩) (u := .int .i64 m3) (by decide) (by decide) g2 (by omega) rfl p2
      rw [List.set_set, List.set_set, List.set_set] at t3
      exact ⟨rfl, ⟨A', c', by rw [hm.out]; exact t3⟩, (But.of_g (S := fun j => j = g) hG0).trans ((((hb4.out.g hg3').set (p := ⟨g, k * 4 + 1, none⟩) (.inr rfl) _).set (p := ⟨g, k * 4 + 2, none⟩) (.inr rfl) _).set (p := ⟨g, k * 4 + 3, none⟩) (.inr rfl) _)⟩
end Go.Proofs.YthhhobfdlgmjlaaDoor
