/- Several texts in one: WatWater, Sound. -/
import Derived.Test.YthhhobfdlgmjlaaDoorWatLogsQWholeRow
import Derived.Test.YthhhobfdlgmjlaaDoorBase
/- water's Water: the least mark. Condition: at most six nodes. -/
namespace Go.Proofs.YthhhobfdlgmjlaaDoor
open Go.RowKit

theorem wm_take {ps : List PeerM} {k : Nat} {p : PeerM} (own : St) (h2 : 2 ≤ k) (hp : ps[k]? = some p) : wmOf own (((ps.take (k + 1)).drop 2).map (·.mark)) = stMin (wmOf own (((ps.take k).drop 2).map (·.mark))) p.mark := by
  rw [drop_take_snoc h2 hp, List.map_append]
  exact wmOf_snoc _ _ _
theorem wm_low {ps : List PeerM} {k : Nat} (own : St) (h2 : k < 2) : wmOf own (((ps.take (k + 1)).drop 2).map (·.mark)) = wmOf own (((ps.take k).drop 2).map (·.mark)) := by
  rw [List.drop_eq_nil_of_le (by rw [List.length_take]; omega), List.drop_eq_nil_of_le (by rw [List.length_take]; omega)]
set_option maxRecDepth 100000 in
set_option maxHeartbeats 2000000 in
theorem watWater_any {w : World} {base T g c : Nat} {ps : List PeerM} (h : TabAt 93 98 w base T g c ps) (hl : ps.length ≤ 6) (wx wy wz : Int) :
    Calls Tryd.prog 34 #[.pointer (some ⟨T, 0, none⟩), .agg #[.int .i64 wx, .int .i64 wy, .int .i64 wz]] w fun e w' => e = .returned (.agg #[.int .i64 (wmOf ⟨wx, wy, wz⟩ ((ps.drop 2).map (·.mark))).wall, .int .i64 (wmOf ⟨wx, wy, wz⟩ ((ps.drop 2).map (·.mark))).logic, .int .i64 (wmOf ⟨wx, wy, wz⟩ ((ps.drop 2).map (·.mark))).node]) ∧ G w w' := by
  have hTl : T < w.heap.size := blk_lt h.t
  have hgl : g < w.heap.size := blk_lt h.gblk.choose_spec
  go_enter Tryd.func34, Tryd.ntmps34
  go_upto_region 1 with fail
  generalize hW0 : (w.alloc (.cells #[.int .i64 wx, .int .i64 wy, .int .i64 wz] 26)).alloc (.cells #[.int .i64 0, .int .i64 0, .int .i64 0] 26) = W0
  have hb3 : W0.heap[w.heap.size]? = some (.cells #[.int .i64 wx, .int .i64 wy, .int .i64 wz] 26 (0, 0)) := by rw [← hW0]; exact (G.new _ _).blk (blk_new w _ _)
  have hb4 : W0.heap[w.heap.size + 1]? = some (.cells #[.int .i64 0, .int .i64 0, .int .i64 0] 26 (0, 0)) := by rw [← hW0]; exact blk_new' _ _ _ _ (by simp)
  have hG0 : G w W0 := by rw [← hW0]; exact (G.new _ _).alloc _
  have hsz : w.heap.size + 1 < W0.heap.size := by rw [← hW0]; simp
  clear hW0
  have s0 := (h.grow hG0).self
  have s1 := (h.grow hG0).row
  go_wp2_with fail
  go_loopw [21] (fun i wr => ∃ (k : Nat) (s : St), k ≤ ps.length ∧ i = .int .i64 k ∧ Hid (s = wmOf ⟨wx, wy, wz⟩ (((ps.take k).drop 2).map (·.mark))) ∧ Hid (wr.heap[w.heap.size]? = some (.cells #[.int .i64 s.wall, .int .i64 s.logic, .int .i64 s.node] 26 (0, 0))) ∧ Hid (wr.heap[w.heap.size + 1]? = some (.cells #[.int .i64 0, .int .i64 0, .int .i64 0] 26 (0, 0))) ∧ G w wr) (fun i _ => ps.length - (intOf i).toNat)
  case atStart => exact ⟨0, ⟨wx, wy, wz⟩, Nat.zero_le _, rfl, rfl, hb3, hb4, hG0⟩
  case round =>
    clear hb3 hb4 hG0 hsz s0 s1
    obtain ⟨k, ⟨s1, s2, s3⟩, hk, rfl, hsm, hb3, hb4, hg⟩ := hrel
    dsimp only at hb3
    have hz3 := blk_lt hb3.out
    have hz4 := blk_lt hb4.out
    by_cases hlt : k < ps.length
    · obtain ⟨p, hp⟩ : ∃ p, ps[k]? = some p := ⟨_, List.getElem?_eq_getElem hlt⟩
      have ho := watOther_any (h.grow hg) k (by omega) hl
      have n1 : (0 : Int) ≤ (k : Int) := by omega
      have n2 : (k : Int) < (ps.length : Int) := by omega
      by_cases h2 : 2 ≤ k
      · rw [decide_eq_true ⟨h2, hlt⟩] at ho
        have hwt := wm_take ⟨wx, wy, wz⟩ h2 hp
        rw [← hsm.out] at hwt
        obtain ⟨pA, pc, pes, ⟨m1, m2, m3⟩⟩ := p
        have hrow := (h.grow hg).row
        obtain ⟨_, d1, d2, d3⟩ := (h.grow hg).cells hp
        have z0 := (blk_cell hb3.out 0).trans (show _ = some (Value.int .i64 s1) from rfl)
        have z1 := (blk_cell hb3.out 1).trans (show _ = some (Value.int .i64 s2) from rfl)
        have z2 := (blk_cell hb3.out 2).trans (show _ = some (Value.int .i64 s3) from rfl)
        dsimp only at d1 d2 d3 hwt
        have hcall := min2_any ⟨s1, s2, s3⟩ ⟨m1, m2, m3⟩ (some ⟨wr.heap.size, 0, none⟩) 2 (wr.heap.size + 1) ((wr.alloc (.cells #[.int .i64 s1, .int .i64 s2, .int .i64 s3, .int .i64 m1, .int .i64 m2, .int .i64 m3] 26)).drew) (by show _ ≤ ((wr.alloc _).heap.size); simp) (Sl.of_blk St.cells_len [⟨s1, s2, s3⟩, ⟨m1, m2, m3⟩] (blk_new wr #[.int .i64 s1, .int .i64 s2, .int .i64 s3, .int .i64 m1, .int .i64 m2, .int .i64 m3] 26) rfl (by simp))
        rw [← hwt] at hcall
        obtain ⟨⟨r1, r2, r3⟩, hr⟩ : ∃ r, wmOf ⟨wx, wy, wz⟩ (((ps.take (k + 1)).drop 2).map (·.mark)) = r := ⟨_, rfl⟩
        rw [hr] at hcall
        dsimp only at hcall
        replace hr := Lib.hid hr.symm
        replace hp := Lib.hid hp
        replace ho := Lib.hid ho
        replace hcall := Lib.hid hcall
        clear hwt
        go_wp2_with fail
        refine Calls.mono ho.out ?_
        rintro e w1 ⟨rfl, rfl⟩
        clear ho
        go_wp2_with fail
        go_region_law (go_simp; go_at_call 53; refine Calls.mono hcall.out ?_; rintro e w3 ⟨rfl, hg3⟩; have hg3' : G wr w3 := ((G.new wr _).drew).trans hg3; have hb33 := hg3'.blk hb3.out; have hb43 := hg3'.blk hb4.out; have c0 := (blk_cell hb33 0).trans (show _ = some (Value.int .i64 s1) from rfl); have c1 := (blk_cell hb33 1).trans (show _ = some (Value.int .i64 s2) from rfl); have c2 := (blk_cell hb33 2).trans (show _ = some (Value.int .i64 s3) from rfl); have y0 := own_free hb33 0; have y1 := own_free hb33 1; have y2 := own_free hb33 2; replace hb33 := Lib.hid hb33; replace hb43 := Lib.hid hb43; clear hg3)
        all_goals
          go_wp2_with fail
          have s3' := (set_blk (set_blk (set_blk hb33.out 0 (.int .i64 r1)) 1 (.int .i64 r2)) 2 (.int .i64 r3)).trans (show _ = some (Obj.cells #[.int .i64 r1, .int .i64 r2, .int .i64 r3] 26 (0, 0)) from rfl)
          have hbX := (((But.refl (fun j => j = w.heap.size) w3).set (p := ⟨w.heap.size, 0, none⟩) (.inr rfl) (.int .i64 r1)).set (p := ⟨w.heap.size, 1, none⟩) (.inr rfl) (.int .i64 r2)).set (p := ⟨w.heap.size, 2, none⟩) (.inr rfl) (.int .i64 r3)
          have s4' := hbX.blk hb43.out (by omega)
          have hgX := (((hg.trans hg3').set (p := ⟨w.heap.size, 0, none⟩) (Nat.le_refl _) (.int .i64 r1)).set (p := ⟨w.heap.size, 1, none⟩) (Nat.le_refl _) (.int .i64 r2)).set (p := ⟨w.heap.size, 2, none⟩) (Nat.le_refl _) (.int .i64 r3)
          replace s3' := Lib.hid s3'
          replace s4' := Lib.hid s4'
          clear hbX
          go_roundw
          case rel => exact ⟨k + 1, ⟨r1, r2, r3⟩, by omega, by go_num, hr, s3', s4', hgX⟩
          case measure => simp [intOf]; omega
      · rw [decide_eq_false (by omega)] at ho
        have hwt := wm_low (ps := ps) (k := k) ⟨wx, wy, wz⟩ (by omega)
        rw [← hsm.out] at hwt
        replace hwt := Lib.hid hwt.symm
        replace ho := Lib.hid ho
        go_wp2_with fail
        refine Calls.mono ho.out ?_
        rintro e w1 ⟨rfl, rfl⟩
        clear ho
        go_wp2_with fail
        go_roundw
        case rel => exact ⟨k + 1, ⟨s1, s2, s3⟩, by omega, by go_num, hwt, hb3, hb4, hg⟩
        case measure => simp [intOf]; omega
    · obtain rfl : k = ps.length := by omega
      rw [List.take_length] at hsm
      have z0 := (blk_cell hb3.out 0).trans (show _ = some (Value.int .i64 s1) from rfl)
      have z1 := (blk_cell hb3.out 1).trans (show _ = some (Value.int .i64 s2) from rfl)
      have z2 := (blk_cell hb3.out 2).trans (show _ = some (Value.int .i64 s3) from rfl)
      obtain ⟨W2, SR, C2, hb2, hG2⟩ := store_blk (P := Tryd.prog) (T := 26) (cs := #[.int .i64 s1, .int .i64 s2, .int .i64 s3]) hb4.out rfl (by kernel_rfl) (by kernel_rfl)
      replace hG2 := hG2 _ hg (by omega)
      replace C2 := Lib.hid C2
      clear hb2
      go_wp2_with (refine wpList_store_at (ty := 26) (x := .tmp 4) rfl (by kernel_rfl) (p := .pointer (some ⟨w.heap.size + 1, 0, none⟩)) (v := .agg #[.int .i64 s1, .int .i64 s2, .int .i64 s3]) rfl rfl SR ?_; clear SR)
      refine bodyPost_ret (v := .agg #[.int .i64 s1, .int .i64 s2, .int .i64 s3]) (results_cell (i := 4) rfl rfl C2.out Tryd.underlying26 rfl (by kernel_rfl)) rfl ?_
      exact ⟨by rw [← hsm.out], hG2⟩
end Go.Proofs.YthhhobfdlgmjlaaDoor
/- stamp.Sound, penstockref7.Sound: the stamps that may be. Conditions: none. -/
namespace Go.Proofs.YthhhobfdlgmjlaaDoor
open Go.RowKit

/-- A stamp's value. -/
def stV (a b c : Int) : Value := .agg #[.int .i64 a, .int .i64 b, .int .i64 c]
def soundB (a b c : Int) : Bool := decide (0 ≤ a ∧ a ≤ 1125899906842624 ∧ 0 ≤ b ∧ b < 65536 ∧ 0 ≤ c ∧ c ≤ 5)
theorem within_any (n m : Int) (w : World) :
    Calls Tryd.prog 47 #[.int .i64 n, .int .i64 m] w fun e w' => e = .returned (.bool (decide (0 ≤ n ∧ n ≤ m))) ∧ w = w' := by
  go_enter Tryd.func47, Tryd.ntmps47
  by_cases h : 0 ≤ n
  · by_cases h2 : n ≤ m
    · go_wp2_with fail
      go_ret
      exact ⟨by simp [h, h2], rfl⟩
    · go_wp2_with fail
      go_ret
      exact ⟨by simp [h2], rfl⟩
  · go_wp2_with fail
    go_ret
    exact ⟨by rw [show decide (0 ≤ n) = false from decide_eq_false (by omega)]; rfl, rfl⟩
theorem sound_any (a b c : Int) (w : World) :
    Calls Tryd.prog 31 #[stV a b c] w fun e w' => e = .returned (.bool (soundB a b c)) ∧ G w w' := by
  unfold stV
  go_enter Tryd.func31, Tryd.ntmps31
  have h1 := fun w => within_any a 1125899906842624 w
  have h2 := fun w => within_any b 65535 w
  have h3 := fun w => within_any c 5 w
  by_cases d1 : 0 ≤ a ∧ a ≤ 1125899906842624
  · have e1 : decide (0 ≤ a ∧ a ≤ 1125899906842624) = true := decide_eq_true d1
    by_cases d2 : 0 ≤ b ∧ b ≤ 65535
    · have e2 : decide (0 ≤ b ∧ b ≤ 65535) = true := decide_eq_true d2
      simp only [e1] at h1
      simp only [e2] at h2
      go_wp2_with fail
      refine (h1 _).mono ?_
      rintro e w1 ⟨rfl, rfl⟩
      go_wp2_with fail
      refine (h2 _).mono ?_
      rintro e w1 ⟨rfl, rfl⟩
      go_wp2_with fail
      refine (h3 _).mono ?_
      rintro e w1 ⟨rfl, rfl⟩
      go_wp2_with fail
      go_ret
      exact ⟨by rw [show soundB a b c = (decide (0 ≤ c) && decide (c ≤ 5)) by unfold soundB; rw [← Bool.decide_and]; exact decide_eq_decide.2 (by omega)]; rfl, G.alloc (G.refl _) _⟩
    · have e2 : decide (0 ≤ b ∧ b ≤ 65535) = false := decide_eq_false d2
      simp only [e1] at h1
      simp only [e2] at h2
      go_wp2_with fail
      refine (h1 _).mono ?_
      rintro e w1 ⟨rfl, rfl⟩
      go_wp2_with fail
      refine (h2 _).mono ?_
      rintro e w1 ⟨rfl, rfl⟩
      go_wp2_with fail
      go_ret
      exact ⟨by rw [show soundB a b c = false from decide_eq_false (by omega)]; rfl, G.alloc (G.refl _) _⟩
  · have e1 : decide (0 ≤ a ∧ a ≤ 1125899906842624) = false := decide_eq_false d1
    simp only [e1] at h1
    go_wp2_with fail
    refine (h1 _).mono ?_
    rintro e w1 ⟨rfl, rfl⟩
    go_wp2_with fail
    go_ret
    exact ⟨by rw [show soundB a b c = false from decide_eq_false (by omega)]; rfl, G.alloc (G.refl _) _⟩
theorem refSound_any (a b c : Int) (w : World) :
    Calls Tryd.prog 10 #[stV a b c] w fun e w' => e = .returned (.bool (soundB a b c)) ∧ G w w' := by
  unfold stV
  go_enter Tryd.func10, Tryd.ntmps10
  by_cases d0 : (0 : Int) ≤ a
  case neg =>
    have e0 : decide ((0 : Int) ≤ a) = false := decide_eq_false d0
    go_wp2_with fail
    go_ret
    exact ⟨by rw [show soundB a b c = false from decide_eq_false (by omega)]; rfl, G.alloc (G.refl _) _⟩
  by_cases d1 : a ≤ 1125899906842624
  case neg =>
    have e1 : decide (a ≤ 1125899906842624) = false := decide_eq_false d1
    go_wp2_with fail
    go_ret
    exact ⟨by rw [show soundB a b c = false from decide_eq_false (by omega)]; rfl, G.alloc (G.refl _) _⟩
  by_cases d2 : (0 : Int) ≤ b
  case neg =>
    have e2 : decide ((0 : Int) ≤ b) = false := decide_eq_false d2
    go_wp2_with fail
    go_ret
    exact ⟨by rw [show soundB a b c = false from decide_eq_false (by omega)]; rfl, G.alloc (G.refl _) _⟩
  by_cases d3 : b < 65536
  case neg =>
    have e3 : decide (b < 65536) = false := decide_eq_false d3
    go_wp2_with fail
    go_ret
    exact ⟨by rw [show soundB a b c = false from decide_eq_false (by omega)]; rfl, G.alloc (G.refl _) _⟩
  by_cases d4 : (0 : Int) ≤ c
  case neg =>
    have e4 : decide ((0 : Int) ≤ c) = false := decide_eq_false d4
    go_wp2_with fail
    go_ret
    exact ⟨by rw [show soundB a b c = false from decide_eq_false (by omega)]; rfl, G.alloc (G.refl _) _⟩
  by_cases d5 : c ≤ 5
  case neg =>
    have e5 : decide (c ≤ 5) = false := decide_eq_false d5
    go_wp2_with fail
    go_ret
    exact ⟨by rw [show soundB a b c = false from decide_eq_false (by omega)]; rfl, G.alloc (G.refl _) _⟩
  go_wp2_with fail
  go_ret
  exact ⟨by rw [show soundB a b c = true from decide_eq_true (by omega)]; rfl, G.alloc (G.refl _) _⟩
end Go.Proofs.YthhhobfdlgmjlaaDoor
