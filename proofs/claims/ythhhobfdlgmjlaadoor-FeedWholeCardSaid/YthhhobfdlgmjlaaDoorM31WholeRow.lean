/- Several texts in one: OwnSet, WatTab. -/
import Derived.Test.YthhhobfdlgmjlaaDoorOwnButQWholeRow
import Derived.Test.YthhhobfdlgmjlaaDoorStMostQWholeRow
/- A store into a row of the call's own. No condition. -/
namespace Go.Proofs.YthhhobfdlgmjlaaDoor
open Go.RowKit

section
variable {α : Type} {e : TypeId} {sz : Nat} {f : α → List Value} {w w' : World} {base : Nat} {xs : List α}
theorem flat_set (hf : ∀ x, (f x).length = sz) {j : Nat} (hj : j < sz) {u : Value} {y : α} : ∀ (xs : List α) (k : Nat) (x : α), xs[k]? = some x → f y = (f x).set j u → (xs.flatMap f).set (k * sz + j) u = (xs.set k y).flatMap f
  | [], k, x, h, _ => by simp at h
  | a :: xs, 0, x, h, hy => by
    simp only [List.getElem?_cons_zero, Option.some.injEq] at h
    subst h
    rw [List.set_cons_zero, List.flatMap_cons, List.flatMap_cons, hy, Nat.zero_mul, Nat.zero_add, List.set_append_left _ _ (by rw [hf]; exact hj)]
  | a :: xs, k + 1, x, h, hy => by
    rw [List.getElem?_cons_succ] at h
    have hm : (k + 1) * sz + j = sz + (k * sz + j) := by rw [Nat.succ_mul]; omega
    rw [List.set_cons_succ, List.flatMap_cons, List.flatMap_cons, List.set_append_right _ _ (by rw [hf, hm]; omega), hf, hm, Nat.add_sub_cancel_left, flat_set hf hj xs k x h hy]
theorem OwnL.put (hf : ∀ x, (f x).length = sz) {g c : Nat} (h : OwnL e sz f w base (.slice (some ⟨g, 0, none⟩) xs.length c) xs) {k j : Nat} {x y : α} {u : Value} (hx : xs[k]? = some x) (hj : j < sz) (hy : f y = (f x).set j u) :
    OwnL e sz f (w.setCell ⟨g, k * sz + j, none⟩ u) base (.slice (some ⟨g, 0, none⟩) xs.length c) (xs.set k y) := by
  have hl : (xs.set k y).length = xs.length := by simp
  have hfs := flat_set hf hj xs k x hx hy
  refine ⟨by rw [flat_length hf], ?_⟩
  rcases h.2 with ⟨h1, _⟩ | ⟨b, cap, cur, hv, hb, hh, hn, hc, hsz, hr⟩
  · cases h1
  · cases hv
    have e1 : (w.setCell ⟨g, k * sz + j, none⟩ u).heap[g]? = some (.cells (cur.setIfInBounds (k * sz + j) u) e (0, 0)) := by
      rw [setCell_eq_setRow w g (k * sz + j) cur e (0, 0) u hh]
      exact setRow_heap w g cur _ e _ hh
    refine .inr ⟨g, c, _, by rw [hl], hb, e1, by rw [hl]; exact hn, hc, by simpa using hsz, ?_⟩
    rw [Array.toList_setIfInBounds, hl, List.take_set, hr, hfs]
end
end Go.Proofs.YthhhobfdlgmjlaaDoor
/- water's table, penstockref17's table: rows of peers behind a pointer. No condition. -/
namespace Go.Proofs.YthhhobfdlgmjlaaDoor
open Go.RowKit

/-- What is known of one node. -/
structure PeerM where
  A : Option Addr
  c : Nat
  es : List Ev
  mark : St
def PeerM.cells (p : PeerM) : List Value := [.slice p.A p.es.length p.c, .int .i64 p.mark.wall, .int .i64 p.mark.logic, .int .i64 p.mark.node]
theorem PeerM.cells_len (p : PeerM) : p.cells.length = 4 := rfl
def peer0 : PeerM := ⟨none, 0, [], ⟨0, 0, 0⟩⟩
/-- The events of a table's nodes are the call's own. -/
def PeersOwn (w : World) (base : Nat) (ps : List PeerM) : Prop := ∀ p ∈ ps, OwnL 32 7 Ev.cells w base (.slice p.A p.es.length p.c) p.es
/-- A table of node 1, at T; its peers' row in block g. -/
structure TabAt (tT tP : TypeId) (w : World) (base T g c : Nat) (ps : List PeerM) : Prop where
  hT : base ≤ T
  hg : base ≤ g
  t : w.heap[T]? = some (.cells #[.int .i64 1, .slice (some ⟨g, 0, none⟩) ps.length c] tT (0, 0))
  p : OwnL tP 4 PeerM.cells w base (.slice (some ⟨g, 0, none⟩) ps.length c) ps
  o : PeersOwn w base ps
section
variable {tT tP : TypeId} {w w' : World} {base T g c : Nat} {ps : List PeerM}
theorem PeersOwn.grow (h : PeersOwn w base ps) (hg : G w w') : PeersOwn w' base ps := fun p hp => (h p hp).g hg
theorem TabAt.grow (h : TabAt tT tP w base T g c ps) (hg : G w w') : TabAt tT tP w' base T g c ps := ⟨h.hT, h.hg, hg.blk h.t, h.p.g hg, h.o.grow hg⟩
theorem TabAt.mono {base' : Nat} (h : TabAt tT tP w base T g c ps) (hb : base' ≤ base) : TabAt tT tP w base' T g c ps :=
  ⟨by have := h.hT; omega, by have := h.hg; omega, h.t, h.p.mono hb, fun p hp => (h.o p hp).mono hb⟩
theorem TabAt.self (h : TabAt tT tP w base T g c ps) : w.cell? ⟨T, 0, none⟩ = some (.int .i64 1) := (blk_cell h.t 0).trans rfl
theorem TabAt.row (h : TabAt tT tP w base T g c ps) : w.cell? ⟨T, 1, none⟩ = some (.slice (some ⟨g, 0, none⟩) ps.length c) := (blk_cell h.t 1).trans rfl
theorem TabAt.cells {k : Nat} {p : PeerM} (h : TabAt tT tP w base T g c ps) (hp : ps[k]? = some p) :
    w.cell? ⟨g, k * 4, none⟩ = some (.slice p.A p.es.length p.c) ∧ w.cell? ⟨g, k * 4 + 1, none⟩ = some (.int .i64 p.mark.wall) ∧ w.cell? ⟨g, k * 4 + 2, none⟩ = some (.int .i64 p.mark.logic) ∧ w.cell? ⟨g, k * 4 + 3, none⟩ = some (.int .i64 p.mark.node) := by
  obtain ⟨b, o, e, _, hc⟩ := (h.p.self PeerM.cells_len).get hp
  cases e
  have h0 := hc 0 _ rfl
  have h1 := hc 1 _ rfl
  have h2 := hc 2 _ rfl
  have h3 := hc 3 _ rfl
  simp only [Nat.zero_add, Nat.add_zero] at h0 h1 h2 h3
  exact ⟨h0, h1, h2, h3⟩
end
theorem peer_elem : IsElem Tryd.prog 91 98 4 48 PeerM.cells :=
  isElem_of (z := .agg #[.slice none 0 0, .int .i64 0, .int .i64 0, .int .i64 0]) Tryd.underlying91 (by kernel_rfl) rfl (by omega) PeerM.cells_len (by intro x u hu; simp [PeerM.cells] at hu; rcases hu with rfl | rfl | rfl | rfl <;> rfl)
theorem peer17_elem : IsElem Tryd.prog 75 79 4 48 PeerM.cells :=
  isElem_of (z := .agg #[.slice none 0 0, .int .i64 0, .int .i64 0, .int .i64 0]) Tryd.underlying75 (by kernel_rfl) rfl (by omega) PeerM.cells_len (by intro x u hu; simp [PeerM.cells] at hu; rcases hu with rfl | rfl | rfl | rfl <;> rfl)
theorem made4 (n : Nat) (hn : n ≤ 6) : (madeCells #[.slice none 0 0, .int .i64 0, .int .i64 0, .int .i64 0] (n * 4)).toList = (List.replicate n peer0).flatMap PeerM.cells := by
  match n, hn with
  | 0, _ => simp [madeCells]
  | 1, _ => simp [madeCells, Array.toList_range, List.range_succ, peer0, PeerM.cells, List.replicate]
  | 2, _ => simp [madeCells, Array.toList_range, List.range_succ, peer0, PeerM.cells, List.replicate]
  | 3, _ => simp [madeCells, Array.toList_range, List.range_succ, peer0, PeerM.cells, List.replicate]
  | 4, _ => simp [madeCells, Array.toList_range, List.range_succ, peer0, PeerM.cells, List.replicate]
  | 5, _ => simp [madeCells, Array.toList_range, List.range_succ, peer0, PeerM.cells, List.replicate]
  | 6, _ => simp [madeCells, Array.toList_range, List.range_succ, peer0, PeerM.cells, List.replicate]

theorem make_peers (w : World) (n : Nat) (hn : n ≤ 6) : ∃ w', (Instr.makeSlice 91 (.int .i64 (n : Int)) (.int .i64 (n : Int))).run Tryd.prog w = .ok (.slice (some ⟨w.heap.size, 0, none⟩) n n) w' ∧
    OwnL 98 4 PeerM.cells w' w.heap.size (.slice (some ⟨w.heap.size, 0, none⟩) (List.replicate n peer0).length n) (List.replicate n peer0) ∧ G w w' := by
  obtain ⟨i, z, h1, h2, h3, h4, _⟩ := peer_elem.info
  have hr := run_make (P := Tryd.prog) w 91 98 i z peer_elem.under h1 h2 .i64 .i64 (n : Int) (n : Int) (by omega) (by omega) (by rw [h4]; omega) (by omega)
  simp only [Int.toNat_natCast, h3] at hr
  have hz : z.cells = #[.slice none 0 0, .int .i64 0, .int .i64 0, .int .i64 0] := by
    have h5 : (Tryd.prog.info? 98).bind (·.zero) = some (.agg #[.slice none 0 0, .int .i64 0, .int .i64 0, .int .i64 0]) := by kernel_rfl
    rw [h1] at h5
    simp only [Option.bind_some, h2] at h5
    cases h5
    rfl
  rw [hz] at hr
  refine ⟨_, hr, ?_, (G.refl w).alloc _⟩
  have hl : (List.replicate n peer0).length = n := by simp
  have := OwnL.made (e := 98) (sz := 4) (f := PeerM.cells) (base := w.heap.size) PeerM.cells_len (List.replicate n peer0) (heap_alloc_new w (.cells (madeCells #[.slice none 0 0, .int .i64 0, .int .i64 0, .int .i64 0] (n * 4)) 98)) (made4 n hn) (Nat.le_refl _) (by rw [hl]; omega)
  rwa [hl] at this ⊢

theorem make_peers17 (w : World) (n : Nat) (hn : n ≤ 6) : ∃ w', (Instr.makeSlice 75 (.int .i64 (n : Int)) (.int .i64 (n : Int))).run Tryd.prog w = .ok (.slice (some ⟨w.heap.size, 0, none⟩) n n) w' ∧
    OwnL 79 4 PeerM.cells w' w.heap.size (.slice (some ⟨w.heap.size, 0, none⟩) (List.replicate n peer0).length n) (List.replicate n peer0) ∧ G w w' := by
  obtain ⟨i, z, h1, h2, h3, h4, _⟩ := peer17_elem.info
  have hr := run_make (P := Tryd.prog) w 75 79 i z peer17_elem.under h1 h2 .i64 .i64 (n : Int) (n : Int) (by omega) (by omega) (by rw [h4]; omega) (by omega)
  simp only [Int.toNat_natCast, h3] at hr
  have hz : z.cells = #[.slice none 0 0, .int .i64 0, .int .i64 0, .int .i64 0] := by
    have h5 : (Tryd.prog.info? 79).bind (·.zero) = some (.agg #[.slice none 0 0, .int .i64 0, .int .i64 0, .int .i64 0]) := by kernel_rfl
    rw [h1] at h5
    simp only [Option.bind_some, h2] at h5
    cases h5
    rfl
  rw [hz] at hr
  refine ⟨_, hr, ?_, (G.refl w).alloc _⟩
  have hl : (List.replicate n peer0).length = n := by simp
  have := OwnL.made (e := 79) (sz := 4) (f := PeerM.cells) (base := w.heap.size) PeerM.cells_len (List.replicate n peer0) (heap_alloc_new w (.cells (madeCells #[.slice none 0 0, .int .i64 0, .int .i64 0, .int .i64 0] (n * 4)) 79)) (made4 n hn) (Nat.le_refl _) (by rw [hl]; omega)
  rwa [hl] at this ⊢

theorem watOther_any {w : World} {base T g c : Nat} {ps : List PeerM} (h : TabAt 93 98 w base T g c ps) (k : Nat) (hk : k ≤ 1000) (hl : ps.length ≤ 6) :
    Calls Tryd.prog 41 #[.pointer (some ⟨T, 0, none⟩), .int .i64 k] w fun e w' => e = .returned (.bool (decide (2 ≤ k ∧ k < ps.length))) ∧ w = w' := by
  have c0 := h.self
  have c1 := h.row
  clear h
  go_enter Tryd.func41, Tryd.ntmps41
  by_cases h1 : k < 1
  · go_wp2_with fail
    go_ret
    exact ⟨ret_bool (by rw [Bool.eq_iff_iff]; first | (simp; done) | (simp; omega) | omega), rfl⟩
  · by_cases h2 : k < ps.length
    · by_cases h3 : k = 1
      · subst h3
        go_wp2_with fail
        go_ret
        exact ⟨ret_bool (by rw [Bool.eq_iff_iff]; first | (simp; done) | (simp; omega) | omega), rfl⟩
      · go_wp2_with fail
        go_ret
        exact ⟨ret_bool (by rw [Bool.eq_iff_iff]; first | (simp; done) | (simp; omega) | omega), rfl⟩
    · go_wp2_with fail
      go_ret
      exact ⟨ret_bool (by rw [Bool.eq_iff_iff]; first | (simp; done) | (simp; omega) | omega), rfl⟩
theorem watNext_any {w : World} {base T g c : Nat} {ps : List PeerM} (h : TabAt 93 98 w base T g c ps) (k : Nat) (h2 : 2 ≤ k) (hl : ps.length ≤ 6) {p : PeerM} (hp : ps[k]? = some p) :
    Calls Tryd.prog 42 #[.pointer (some ⟨T, 0, none⟩), .int .i64 k] w fun e w' => e = .returned (.int .i64 p.es.length) ∧ w = w' := by
  have hkl : k < ps.length := (List.getElem?_eq_some_iff.1 hp).1
  have c1 := h.row
  obtain ⟨d0, _, _, _⟩ := h.cells hp
  have ho := watOther_any h k (by omega) hl
  rw [decide_eq_true ⟨h2, hkl⟩] at ho
  clear h hp
  go_enter Tryd.func42, Tryd.ntmps42
  go_wp2_with fail
  refine ho.mono ?_
  rintro e w1 ⟨rfl, rfl⟩
  clear ho
  go_wp2_with fail
  go_ret
  exact ⟨rfl, rfl⟩
end Go.Proofs.YthhhobfdlgmjlaaDoor
