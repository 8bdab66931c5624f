/- penstocklaw9.EventEvents: the walk. Condition: the decoder's tables lie as the library lays them. -/
import Derived.Test.YtilfgafdkiaaaaaDoorDecEvent
import Derived.Test.YtilfgafdkiaaaaaDoorBytes
import Derived.Test.YtilfgafdkiaaaaaDoorSum
import Derived.Test.YtilfgafdkiaaaaaDoorAwake9
namespace Go.Proofs.YtilfgafdkiaaaaaDoor
open Go.RowKit

theorem decT_ev (l : List UInt8) (o : Option (Ev × List UInt8)) : ∃ (y : Ev) (n k : Int), decT evVal zEv l o = .tuple #[evVal y, .int .i64 n, .int .i64 k] := by
  rcases o with _ | ⟨x, r⟩
  · exact ⟨zEv, 0, 10, rfl⟩
  · exact ⟨x, _, 0, rfl⟩
theorem evB_self (e : Ev) : evB e e = true := by simp [evB]
theorem sumTo_two {a b : Int} (ha : 0 ≤ a) (hb : 0 ≤ b) (h : sumTo 0 [a, b] ≤ 6000) : a + b ≤ 6000 := by
  unfold sumTo at h
  split at h
  · unfold sumTo at h
    split at h
    · unfold sumTo at h; omega
    · omega
  · omega
theorem evL_len (e : Ev) : (evL e).length ≤ e.stream.size + e.data.size + 70 := by
  unfold evL
  split
  · unfold evBytes
    simp only [List.length_append]
    have := textL_len e.stream
    have := textL_len e.data
    have := vL_len e.version.toNat
    have := vL_len e.index.toNat
    have := stL_len e.st
    omega
  · simp
set_option maxRecDepth 100000 in
set_option maxHeartbeats 4000000 in
theorem eventEvents_walk (s d : ByteArray) (v x y z i : Int) (l : List UInt8) (A : Option Addr) (c8 : Nat) (w : World) (hs : s.size ≤ 9223372036854775807) (hd : d.size ≤ 9223372036854775807) (hsl : Sl byteC 1 w w.heap.size A l) (hcap : l.length ≤ c8) (hc8 : c8 ≤ 9223372036854775807) (hT : Tabs w) :
    Calls Tryd.prog 5 #[.agg (Ev.cells ⟨s, v, d, ⟨x, y, z⟩, i⟩).toArray, .slice A l.length c8] w fun e w' => e = .returned (.bool true) ∧ G w w' := by
  have hsum : ∀ (b : Nat) (w' : World), w'.cell? ⟨b, 0, none⟩ = some (.int .i64 s.size) → w'.cell? ⟨b, 1, none⟩ = some (.int .i64 d.size) → Calls Tryd.prog 14 #[.int .i64 0, .slice (some ⟨b, 0, none⟩) 2 2] w' fun e w'' => e = .returned (.int .i64 (sumTo 0 [(s.size : Int), (d.size : Int)])) ∧ w' = w'' :=
    fun b w' h0 h1 => sum_2 0 s.size d.size b w' (by omega) (by omega) (by omega) (by omega) (by omega) (by omega) h0 h1
  have hto := sumTo_two (a := (s.size : Int)) (b := (d.size : Int)) (by omega) (by omega)
  generalize sumTo 0 [(s.size : Int), (d.size : Int)] = T at hsum hto
  show Calls _ _ #[.agg #[.string s, .int .i64 v, .string d, .int .i64 x, .int .i64 y, .int .i64 z, .int .i64 i], .slice A l.length c8] _ _
  by_cases hbig : T ≤ 6000 ∧ l.length ≤ 6000
  · obtain ⟨hb1, hb2⟩ := hbig
    have hto := hto hb1
    have t1 : ¬ 6000 < T := by omega
    have t2 : ¬ 6000 < (l.length : Int) := by omega
    have hel := evL_len ⟨s, v, d, ⟨x, y, z⟩, i⟩
    simp only at hel
    have hen1 : ∀ w', G w w' → Calls Tryd.prog 18 #[.agg #[.string s, .int .i64 v, .string d, .int .i64 x, .int .i64 y, .int .i64 z, .int .i64 i]] w' (RetBytesN w' (evL ⟨s, v, d, ⟨x, y, z⟩, i⟩)) := fun w' hg => evEnc_any s d v x y z i w' (by omega) (by omega) (hT.g hg)
    have hen2 : ∀ w', G w w' → Calls Tryd.prog 19 #[.agg #[.string s, .int .i64 v, .string d, .int .i64 x, .int .i64 y, .int .i64 z, .int .i64 i]] w' (RetBytesN w' (evL ⟨s, v, d, ⟨x, y, z⟩, i⟩)) := fun w' hg => refEvEnc_any s d v x y z i w' (by omega) (by omega) (hT.g hg)
    obtain ⟨⟨ys, yv, yd, ⟨ya, yb, yc⟩, yi⟩, n1, k1, hdec⟩ := decT_ev l (dEvent l)
    have hd1 : ∀ w', G w w' → Calls Tryd.prog 15 #[.slice A l.length c8] w' fun e w'' => e = .returned (.tuple #[.agg #[.string ys, .int .i64 yv, .string yd, .int .i64 ya, .int .i64 yb, .int .i64 yc, .int .i64 yi], .int .i64 n1, .int .i64 k1]) ∧ G w' w'' := fun w' hg =>
      (decEvent_any l A c8 w' ((hsl.g (Nat.le_refl _) hg).more hg.size) (by omega) hcap (hT.g hg)).mono fun e w'' ⟨h1, h2⟩ => ⟨by rw [h1, hdec]; rfl, h2⟩
    have hd2 : ∀ w', G w w' → Calls Tryd.prog 16 #[.slice A l.length c8] w' fun e w'' => e = .returned (.tuple #[.agg #[.string ys, .int .i64 yv, .string yd, .int .i64 ya, .int .i64 yb, .int .i64 yc, .int .i64 yi], .int .i64 n1, .int .i64 k1]) ∧ G w' w'' := fun w' hg =>
      (refDecEvent_any l A c8 w' ((hsl.g (Nat.le_refl _) hg).more hg.size) (by omega) hcap (hT.g hg)).mono fun e w'' ⟨h1, h2⟩ => ⟨by rw [h1, hdec]; rfl, h2⟩
    have hee : ∀ w', (binOp .eql 41 (.agg #[.string ys, .int .i64 yv, .string yd, .int .i64 ya, .int .i64 yb, .int .i64 yc, .int .i64 yi]) (.agg #[.string ys, .int .i64 yv, .string yd, .int .i64 ya, .int .i64 yb, .int .i64 yc, .int .i64 yi])).run Tryd.prog w' = .ok (.bool true) w' := fun w' => by rw [ev_eql, evB_self]
    generalize evL ⟨s, v, d, ⟨x, y, z⟩, i⟩ = el at *
    clear hdec hsl
    replace hT := Lib.hid hT
    replace hen1 := Lib.hid hen1
    replace hen2 := Lib.hid hen2
    replace hd1 := Lib.hid hd1
    replace hd2 := Lib.hid hd2
    go_enter Tryd.func5, Tryd.ntmps5
    go_upto_region 1 with fail
    generalize hW0 : w.alloc (.cells #[.string s, .int .i64 v, .string d, .int .i64 x, .int .i64 y, .int .i64 z, .int .i64 i] 41) = W0
    have hz : w.heap.size + 0 < W0.heap.size := by rw [← hW0]; simp
    have hG0 : G w W0 := by rw [← hW0]; exact G.new _ _
    have r0 : W0.cell? ⟨w.heap.size, 0, none⟩ = some (.string s) := by rw [← hW0]; simp
    have r1 : W0.cell? ⟨w.heap.size, 1, none⟩ = some (.int .i64 v) := by rw [← hW0]; simp
    have r2 : W0.cell? ⟨w.heap.size, 2, none⟩ = some (.string d) := by rw [← hW0]; simp
    have r3 : W0.cell? ⟨w.heap.size, 3, none⟩ = some (.int .i64 x) := by rw [← hW0]; simp
    have r4 : W0.cell? ⟨w.heap.size, 4, none⟩ = some (.int .i64 y) := by rw [← hW0]; simp
    have r5 : W0.cell? ⟨w.heap.size, 5, none⟩ = some (.int .i64 z) := by rw [← hW0]; simp
    have r6 : W0.cell? ⟨w.heap.size, 6, none⟩ = some (.int .i64 i) := by rw [← hW0]; simp
    clear hW0
    have q0 : ∀ w', G W0 w' → w'.cell? ⟨w.heap.size, 0, none⟩ = some (.string s) := fun w' h => (h.cell (by omega)).trans r0
    have q1 : ∀ w', G W0 w' → w'.cell? ⟨w.heap.size, 1, none⟩ = some (.int .i64 v) := fun w' h => (h.cell (by omega)).trans r1
    have q2 : ∀ w', G W0 w' → w'.cell? ⟨w.heap.size, 2, none⟩ = some (.string d) := fun w' h => (h.cell (by omega)).trans r2
    have q3 : ∀ w', G W0 w' → w'.cell? ⟨w.heap.size, 3, none⟩ = some (.int .i64 x) := fun w' h => (h.cell (by omega)).trans r3
    have q4 : ∀ w', G W0 w' → w'.cell? ⟨w.heap.size, 4, none⟩ = some (.int .i64 y) := fun w' h => (h.cell (by omega)).trans r4
    have q5 : ∀ w', G W0 w' → w'.cell? ⟨w.heap.size, 5, none⟩ = some (.int .i64 z) := fun w' h => (h.cell (by omega)).trans r5
    have q6 : ∀ w', G W0 w' → w'.cell? ⟨w.heap.size, 6, none⟩ = some (.int .i64 i) := fun w' h => (h.cell (by omega)).trans r6
    clear r0 r1 r2 r3 r4 r5 r6
    have hgr : G W0 W0 := G.refl _
    go_wp2_with (first | (go_at_call 14; refine (hsum _ _ (by simp) (by simp)).mono ?_; rintro e w1 ⟨rfl, rfl⟩) | (go_at_call 15; refine (hd1.out _ (hG0.trans (G.new _ _))).mono ?_; rintro e w2 ⟨rfl, hg2⟩; replace hg2 := (G.new W0 _).trans hg2) | (go_at_call 16; refine (hd2.out _ (hG0.trans (hg2.alloc _))).mono ?_; rintro e w3 ⟨rfl, hg3⟩))
    have hY : (w3.alloc (.cells #[.string ys, .int .i64 yv, .string yd, .int .i64 ya, .int .i64 yb, .int .i64 yc, .int .i64 yi] 41)).heap[w2.heap.size]? = some (.cells #[.string ys, .int .i64 yv, .string yd, .int .i64 ya, .int .i64 yb, .int .i64 yc, .int .i64 yi] 41 (0, 0)) := (G.new _ _).blk (hg3.blk (blk_new _ _ _))
    have hZ := blk_new w3 #[.string ys, .int .i64 yv, .string yd, .int .i64 ya, .int .i64 yb, .int .i64 yc, .int .i64 yi] 41
    have hG5 : G W0 (w3.alloc (.cells #[.string ys, .int .i64 yv, .string yd, .int .i64 ya, .int .i64 yb, .int .i64 yc, .int .i64 yi] 41)) := ((hg2.alloc _).trans hg3).alloc _
    generalize w3.alloc (.cells #[.string ys, .int .i64 yv, .string yd, .int .i64 ya, .int .i64 yb, .int .i64 yc, .int .i64 yi] 41) = W5 at *
    generalize w2.heap.size = b1 at *
    generalize w3.heap.size = b2 at *
    clear hg2 hg3 hgr hsum hd1 hd2
    have x0 : ∀ w', G W5 w' → w'.cell? ⟨w.heap.size, 0, none⟩ = some (.string s) := fun w' h => q0 w' (hG5.trans h)
    have x1 : ∀ w', G W5 w' → w'.cell? ⟨w.heap.size, 1, none⟩ = some (.int .i64 v) := fun w' h => q1 w' (hG5.trans h)
    have x2 : ∀ w', G W5 w' → w'.cell? ⟨w.heap.size, 2, none⟩ = some (.string d) := fun w' h => q2 w' (hG5.trans h)
    have x3 : ∀ w', G W5 w' → w'.cell? ⟨w.heap.size, 3, none⟩ = some (.int .i64 x) := fun w' h => q3 w' (hG5.trans h)
    have x4 : ∀ w', G W5 w' → w'.cell? ⟨w.heap.size, 4, none⟩ = some (.int .i64 y) := fun w' h => q4 w' (hG5.trans h)
    have x5 : ∀ w', G W5 w' → w'.cell? ⟨w.heap.size, 5, none⟩ = some (.int .i64 z) := fun w' h => q5 w' (hG5.trans h)
    have x6 : ∀ w', G W5 w' → w'.cell? ⟨w.heap.size, 6, none⟩ = some (.int .i64 i) := fun w' h => q6 w' (hG5.trans h)
    clear q0 q1 q2 q3 q4 q5 q6
    have y0 : ∀ w', G W5 w' → w'.cell? ⟨b1, 0, none⟩ = some (.string ys) := fun w' h => (blk_cell (h.blk hY) 0).trans rfl
    have y1 : ∀ w', G W5 w' → w'.cell? ⟨b1, 1, none⟩ = some (.int .i64 yv) := fun w' h => (blk_cell (h.blk hY) 1).trans rfl
    have y2 : ∀ w', G W5 w' → w'.cell? ⟨b1, 2, none⟩ = some (.string yd) := fun w' h => (blk_cell (h.blk hY) 2).trans rfl
    have y3 : ∀ w', G W5 w' → w'.cell? ⟨b1, 3, none⟩ = some (.int .i64 ya) := fun w' h => (blk_cell (h.blk hY) 3).trans rfl
    have y4 : ∀ w', G W5 w' → w'.cell? ⟨b1, 4, none⟩ = some (.int .i64 yb) := fun w' h => (blk_cell (h.blk hY) 4).trans rfl
    have y5 : ∀ w', G W5 w' → w'.cell? ⟨b1, 5, none⟩ = some (.int .i64 yc) := fun w' h => (blk_cell (h.blk hY) 5).trans rfl
    have y6 : ∀ w', G W5 w' → w'.cell? ⟨b1, 6, none⟩ = some (.int .i64 yi) := fun w' h => (blk_cell (h.blk hY) 6).trans rfl
    have z0 : ∀ w', G W5 w' → w'.cell? ⟨b2, 0, none⟩ = some (.string ys) := fun w' h => (blk_cell (h.blk hZ) 0).trans rfl
    have z1 : ∀ w', G W5 w' → w'.cell? ⟨b2, 1, none⟩ = some (.int .i64 yv) := fun w' h => (blk_cell (h.blk hZ) 1).trans rfl
    have z2 : ∀ w', G W5 w' → w'.cell? ⟨b2, 2, none⟩ = some (.string yd) := fun w' h => (blk_cell (h.blk hZ) 2).trans rfl
    have z3 : ∀ w', G W5 w' → w'.cell? ⟨b2, 3, none⟩ = some (.int .i64 ya) := fun w' h => (blk_cell (h.blk hZ) 3).trans rfl
    have z4 : ∀ w', G W5 w' → w'.cell? ⟨b2, 4, none⟩ = some (.int .i64 yb) := fun w' h => (blk_cell (h.blk hZ) 4).trans rfl
    have z5 : ∀ w', G W5 w' → w'.cell? ⟨b2, 5, none⟩ = some (.int .i64 yc) := fun w' h => (blk_cell (h.blk hZ) 5).trans rfl
    have z6 : ∀ w', G W5 w' → w'.cell? ⟨b2, 6, none⟩ = some (.int .i64 yi) := fun w' h => (blk_cell (h.blk hZ) 6).trans rfl
    have hGw : ∀ w', G W5 w' → G w w' := fun w' h => hG0.trans (hG5.trans h)
    replace hGw := Lib.hid hGw
    replace hY := Lib.hid hY
    replace hZ := Lib.hid hZ
    have haw := fun w' => awake9_any w'
    go_region_held3 (fun w' => G W5 w') (first | exact (G.refl _).drew | exact hgm.keep (by assumption) | exact hgn.keep (by assumption) | exact hgb.keep (by assumption) | exact hga.keep (by assumption) | fail) (first
      | (go_at_call 18; (with_reducible refine Calls.mono (hen1.out _ (hGw.out _ (by assumption))) ?_); rintro e u1 ⟨A1, d1, rfl, hown1, hgm, _⟩; replace hown1 := OwnL.self byteC_len hown1)
      | (go_at_call 19; (with_reducible refine Calls.mono (hen2.out _ (hGw.out _ (by assumption))) ?_); rintro e u2 ⟨A2, d2, rfl, hown2, hgn, _⟩; replace hown2 := OwnL.self byteC_len hown2)
      | (go_at_call 17; (with_reducible refine Calls.mono (bytesSelf_any el A1 A2 d1 d2 _ u2 (Nat.le_refl _) ((hown1.g (Nat.le_refl _) hgn).more hgn.size) hown2 (by omega)) ?_); rintro e u3 ⟨rfl, hgb⟩)
      | (go_at_call 17; (with_reducible refine Calls.mono (bytesSelf_any el A1 A2 d1 d2 _ u1 (Nat.le_refl _) hown1 ((hown2.g (Nat.le_refl _) hgm).more hgm.size) (by omega)) ?_); rintro e u3 ⟨rfl, hgb⟩)
      | (go_at_call 9; (with_reducible refine Calls.mono (haw _) ?_); rintro e u4 ⟨rfl, hga⟩))
    all_goals
      have hGe : G W5 u4 := by assumption
      go_wp2_with fail
      go_ret
      exact ⟨rfl, hGw.out _ hGe⟩
  · by_cases h1 : 6000 < T
    · have t1 : decide (6000 < T) = true := decide_eq_true h1
      clear hbig hto
      go_enter Tryd.func5, Tryd.ntmps5
      go_wp2_with (first | (go_at_call 14; refine (hsum _ _ (by simp) (by simp)).mono ?_; rintro e w1 ⟨rfl, rfl⟩) | (go_at_call 9; refine (awake9_any _).mono ?_; rintro e w2 ⟨rfl, hg2⟩))
      go_ret
      exact ⟨rfl, ((G.new _ _).alloc _).trans hg2⟩
    · have t1 : ¬ 6000 < T := h1
      have t2 : 6000 < (l.length : Int) := by omega
      clear hbig hto
      go_enter Tryd.func5, Tryd.ntmps5
      go_wp2_with (first | (go_at_call 14; refine (hsum _ _ (by simp) (by simp)).mono ?_; rintro e w1 ⟨rfl, rfl⟩) | (go_at_call 9; refine (awake9_any _).mono ?_; rintro e w2 ⟨rfl, hg2⟩))
      go_ret
      exact ⟨rfl, ((G.new _ _).alloc _).trans hg2⟩
end Go.Proofs.YtilfgafdkiaaaaaDoor
