/- penstockref7.Min and penstockref17's Water: the least mark. Conditions: at most 1000 stamps, at most six nodes. -/
import Derived.Test.YthhhobfdlgmjlaaDoorM36WholeRow
namespace Go.Proofs.YthhhobfdlgmjlaaDoor
open Go.RowKit

theorem st_elem17 : IsElem Tryd.prog 23 26 3 24 St.cells :=
  isElem_of (z := .agg #[.int .i64 0, .int .i64 0, .int .i64 0]) Tryd.underlying23 (by kernel_rfl) rfl (by omega) St.cells_len (by intro x u hu; simp [St.cells] at hu; rcases hu with rfl | rfl | rfl <;> rfl)
set_option maxHeartbeats 2000000 in
set_option maxRecDepth 100000 in
theorem refMin_any (xs : List St) (A : Option Addr) (c B : Nat) (w : World) (hB : B ≤ w.heap.size) (hl : xs.length ≤ 1000) (hs : Sl St.cells 3 w B A xs) :
    Calls Tryd.prog 37 #[.slice A xs.length c] w fun e w' => e = .returned (.agg #[.int .i64 (mostTo stMin xs xs.length).wall, .int .i64 (mostTo stMin xs xs.length).logic, .int .i64 (mostTo stMin xs xs.length).node]) ∧ G w w' := by
  go_enter Tryd.func37, Tryd.ntmps37
  go_upto_region 2 with fail
  generalize hW0 : (w.alloc (.cells #[.int .i64 0, .int .i64 0, .int .i64 0] 26)).alloc (.cells #[.int .i64 0, .int .i64 0, .int .i64 0] 26) = W0
  have hb2 : W0.heap[w.heap.size]? = some (.cells #[.int .i64 0, .int .i64 0, .int .i64 0] 26 (0, 0)) := by rw [← hW0]; exact (G.new _ _).blk (blk_new w _ _)
  have hb3 : W0.heap[w.heap.size + 1]? = some (.cells #[.int .i64 0, .int .i64 0, .int .i64 0] 26 (0, 0)) := by rw [← hW0]; exact blk_new' _ _ _ _ (by simp)
  have hG0 : G w W0 := by rw [← hW0]; exact (G.new _ _).alloc _
  clear hW0
  go_wp2_with fail
  go_loopw [4] (fun i wr => ∃ (k : Nat) (s : St), k ≤ xs.length ∧ i = .int .i64 k ∧ Hid (s = mostTo stMin xs k) ∧ Hid (wr.heap[w.heap.size + 1]? = some (.cells #[.int .i64 s.wall, .int .i64 s.logic, .int .i64 s.node] 26 (0, 0))) ∧ Hid (wr.heap[w.heap.size]? = some (.cells #[.int .i64 0, .int .i64 0, .int .i64 0] 26 (0, 0))) ∧ G w wr) (fun i _ => xs.length - (intOf i).toNat)
  case atStart => exact ⟨0, ⟨0, 0, 0⟩, Nat.zero_le _, rfl, rfl, hb3, hb2, hG0⟩
  case round =>
    clear hb2 hb3 hG0
    obtain ⟨k, ⟨s1, s2, s3⟩, hk, rfl, hsm, hblk, hres, hg⟩ := hrel
    have hsz := blk_lt hblk.out
    dsimp only at hblk
    by_cases hlt : k < xs.length
    · obtain ⟨⟨x1, x2, x3⟩, hx⟩ : ∃ x, xs[k]? = some x := ⟨_, List.getElem?_eq_getElem hlt⟩
      obtain ⟨b, o, rfl, hb, c0, c1, c2⟩ := (hs.g hB hg).st3 hx
      have hbl : b < wr.heap.size := by have := hg.size; omega
      replace hx := Lib.hid hx
      dsimp only at c0 c1 c2
      have n1 : (0 : Int) ≤ (k : Int) := by omega
      have n2 : (k : Int) < (xs.length : Int) := by omega
      by_cases hk0 : k = 0
      · have hnew : (⟨x1, x2, x3⟩ : St) = mostTo stMin xs (k + 1) := by
          have h := hx.out
          rw [hk0] at h
          rw [hk0]
          exact (mostTo_one h).symm
        replace hnew := Lib.hid hnew
        have hkb : ((k : Int) == 0) = true := by simp; omega
        replace hk0 := Lib.hid hk0
        go_upto_region 5 with fail
        go_quiet (fail)
        have hgx := (G.refl wr).drewN nq
        obtain ⟨W2, SR, C2, hb2, hG2⟩ := store_blk (P := Tryd.prog) (T := 26) (cs := #[.int .i64 x1, .int .i64 x2, .int .i64 x3]) ((hgx).blk hblk.out) rfl (by kernel_rfl) (by kernel_rfl)
        replace hG2 := hG2 _ (hg.trans (hgx)) (by omega)
        have hR2 := hb2.blk ((hgx).blk hres.out) (by omega)
        have d0 := ((hgx).cell (o := o + k * 3) hbl).trans c0
        have d1 := ((hgx).cell (o := o + k * 3 + 1) hbl).trans c1
        have d2 := ((hgx).cell (o := o + k * 3 + 2) hbl).trans c2
        replace C2 := Lib.hid C2
        replace hR2 := Lib.hid hR2
        clear hb2 hs hsm
        go_wp2_with (refine wpList_store_at (ty := 26) (x := .tmp 3) rfl (by kernel_rfl) (p := .pointer (some ⟨w.heap.size + 1, 0, none⟩)) (v := .agg #[.int .i64 x1, .int .i64 x2, .int .i64 x3]) rfl rfl SR ?_; clear SR)
        go_roundw
        case rel => exact ⟨k + 1, ⟨x1, x2, x3⟩, by omega, by go_num, hnew, C2, hR2, hG2⟩
        case measure => (simp [intOf] <;> omega)
      · have hk1 : 0 < k := by omega
        have hkb : ((k : Int) == 0) = false := by simp; omega
        have hms := mostTo_succ (f := stMin) hk1 hx.out
        rw [← hsm.out] at hms
        have hcl := fun w' => refLess_any x1 x2 x3 s1 s2 s3 w'
        have e0 : ∀ w', G wr w' → w'.cell? ⟨b, o + k * 3, none⟩ = some (.int .i64 x1) := fun w' h => (h.cell hbl).trans c0
        have e1 : ∀ w', G wr w' → w'.cell? ⟨b, o + k * 3 + 1, none⟩ = some (.int .i64 x2) := fun w' h => (h.cell hbl).trans c1
        have e2 : ∀ w', G wr w' → w'.cell? ⟨b, o + k * 3 + 2, none⟩ = some (.int .i64 x3) := fun w' h => (h.cell hbl).trans c2
        have z0 : ∀ w', G wr w' → w'.cell? ⟨w.heap.size + 1, 0, none⟩ = some (.int .i64 s1) := fun w' h => (blk_cell (h.blk hblk.out) 0).trans rfl
        have z1 : ∀ w', G wr w' → w'.cell? ⟨w.heap.size + 1, 1, none⟩ = some (.int .i64 s2) := fun w' h => (blk_cell (h.blk hblk.out) 1).trans rfl
        have z2 : ∀ w', G wr w' → w'.cell? ⟨w.heap.size + 1, 2, none⟩ = some (.int .i64 s3) := fun w' h => (blk_cell (h.blk hblk.out) 2).trans rfl
        cases hlb : stLt ⟨x1, x2, x3⟩ ⟨s1, s2, s3⟩ with
        | true =>
          have hnew : (⟨x1, x2, x3⟩ : St) = mostTo stMin xs (k + 1) := by rw [hms]; unfold stMin; rw [if_pos hlb]
          rw [hlb] at hcl
          replace hcl := Lib.hid hcl
          replace hnew := Lib.hid hnew
          replace hlb := Lib.hid hlb
          replace c0 := Lib.hid c0
          replace c1 := Lib.hid c1
          replace c2 := Lib.hid c2
          clear hms
          go_upto_region 5 with fail
          go_region_held3 (fun w' => G wr w') (first | exact (G.refl _).drew | exact hgm.keep (by assumption) | assumption | fail) (first | (go_at_call 16; (with_reducible refine Calls.mono (hcl.out _) ?_); rintro e wm ⟨rfl, hgm⟩))
          all_goals
            have hgx : G wr wm := by assumption
            clear e0 e1 e2 z0 z1 z2
            replace c0 := c0.out
            replace c1 := c1.out
            replace c2 := c2.out
            obtain ⟨W2, SR, C2, hb2, hG2⟩ := store_blk (P := Tryd.prog) (T := 26) (cs := #[.int .i64 x1, .int .i64 x2, .int .i64 x3]) ((hgx).blk hblk.out) rfl (by kernel_rfl) (by kernel_rfl)
            replace hG2 := hG2 _ (hg.trans (hgx)) (by omega)
            have hR2 := hb2.blk ((hgx).blk hres.out) (by omega)
            have d0 := ((hgx).cell (o := o + k * 3) hbl).trans c0
            have d1 := ((hgx).cell (o := o + k * 3 + 1) hbl).trans c1
            have d2 := ((hgx).cell (o := o + k * 3 + 2) hbl).trans c2
            replace C2 := Lib.hid C2
            replace hR2 := Lib.hid hR2
            clear hb2 hs hsm
            go_wp2_with (refine wpList_store_at (ty := 26) (x := .tmp 3) rfl (by kernel_rfl) (p := .pointer (some ⟨w.heap.size + 1, 0, none⟩)) (v := .agg #[.int .i64 x1, .int .i64 x2, .int .i64 x3]) rfl rfl SR ?_; clear SR)
            go_roundw
            case rel => exact ⟨k + 1, ⟨x1, x2, x3⟩, by omega, by go_num, hnew, C2, hR2, hG2⟩
            case measure => (simp [intOf] <;> omega)
        | false =>
          have hnew : (⟨s1, s2, s3⟩ : St) = mostTo stMin xs (k + 1) := by rw [hms]; unfold stMin; rw [if_neg (by rw [hlb]; simp)]
          rw [hlb] at hcl
          replace hcl := Lib.hid hcl
          replace hnew := Lib.hid hnew
          replace hlb := Lib.hid hlb
          clear hms
          go_upto_region 5 with fail
          go_region_held3 (fun w' => G wr w') (first | exact (G.refl _).drew | exact hgm.keep (by assumption) | assumption | fail) (first | (go_at_call 16; (with_reducible refine Calls.mono (hcl.out _) ?_); rintro e wm ⟨rfl, hgm⟩))
          all_goals
            have hgx : G wr wm := by assumption
            have hb3 := hgx.blk hblk.out
            have hb2 := hgx.blk hres.out
            replace hb3 := Lib.hid hb3
            replace hb2 := Lib.hid hb2
            go_wp2_with fail
            go_roundw
            case rel => exact ⟨k + 1, ⟨s1, s2, s3⟩, by omega, by go_num, hnew, hb3, hb2, hg.trans hgx⟩
            case measure => (simp [intOf] <;> omega)
    · obtain rfl : k = xs.length := by omega
      have z0 := (blk_cell hblk.out 0).trans (show _ = some (Value.int .i64 s1) from rfl)
      have z1 := (blk_cell hblk.out 1).trans (show _ = some (Value.int .i64 s2) from rfl)
      have z2 := (blk_cell hblk.out 2).trans (show _ = some (Value.int .i64 s3) from rfl)
      obtain ⟨W2, SR, C2, hb2, hG2⟩ := store_blk (P := Tryd.prog) (T := 26) (cs := #[.int .i64 s1, .int .i64 s2, .int .i64 s3]) hres.out rfl (by kernel_rfl) (by kernel_rfl)
      replace hG2 := hG2 _ hg (by omega)
      replace C2 := Lib.hid C2
      clear hb2
      go_wp2_with (refine wpList_store_at (ty := 26) (x := .tmp 2) rfl (by kernel_rfl) (p := .pointer (some ⟨w.heap.size, 0, none⟩)) (v := .agg #[.int .i64 s1, .int .i64 s2, .int .i64 s3]) rfl rfl SR ?_; clear SR)
      refine bodyPost_ret (v := .agg #[.int .i64 s1, .int .i64 s2, .int .i64 s3]) (results_cell (i := 2) rfl rfl C2.out Tryd.underlying26 rfl (by kernel_rfl)) rfl ?_
      exact ⟨by rw [← hsm.out], hG2⟩
theorem drop_take1 {α : Type} {ps : List α} {k : Nat} {p : α} (h2 : 1 ≤ k) (hp : ps[k]? = some p) : (ps.take (k + 1)).drop 1 = (ps.take k).drop 1 ++ [p] := by
  obtain ⟨hk, rfl⟩ := List.getElem?_eq_some_iff.1 hp
  rw [List.take_succ_eq_append_getElem hk, List.drop_append_of_le_length (by rw [List.length_take]; omega)]
/-- The marks that Water gathers. -/
def wmL (own : St) (ms : List PeerM) (k : Nat) : List St := own :: ((ms.take k).drop 1).map (·.mark)
theorem wmL_zero (own : St) (ms : List PeerM) : wmL own ms 0 = [own] := by simp [wmL]
theorem wmL_one (own : St) (ms : List PeerM) : wmL own ms 1 = [own] := by
  unfold wmL
  rw [List.drop_eq_nil_of_le (by rw [List.length_take]; omega)]
  rfl
theorem wmL_succ {own : St} {ms : List PeerM} {k : Nat} {p : PeerM} (hk : 1 ≤ k) (hp : ms[k]? = some p) : wmL own ms (k + 1) = wmL own ms k ++ [p.mark] := by
  unfold wmL
  rw [drop_take1 hk hp, List.map_append]
  rfl
theorem wmL_len (own : St) (ms : List PeerM) (k : Nat) : (wmL own ms k).length ≤ k + 1 := by
  unfold wmL
  simp only [List.length_cons, List.length_map, List.length_drop, List.length_take]
  omega
theorem wmL_all (own : St) (ms : List PeerM) : mostTo stMin (wmL own ms ms.length) (wmL own ms ms.length).length = wmOf own ((ms.drop 1).map (·.mark)) := by
  unfold mostTo
  rw [List.take_length]
  unfold wmL
  rw [List.take_length]
  rfl
set_option maxRecDepth 100000 in
set_option maxHeartbeats 2000000 in
theorem water17_any {w : World} {base T g c : Nat} {ps : List PeerM} (h : TabAt 77 79 w base T g c ps) (hl : ps.length ≤ 6) (wx wy wz : Int) :
    Calls Tryd.prog 14 #[.pointer (some ⟨T, 0, none⟩), .agg #[.int .i64 wx, .int .i64 wy, .int .i64 wz]] w fun e w' => e = .returned (.agg #[.int .i64 (wmOf ⟨wx, wy, wz⟩ ((ps.drop 1).map (·.mark))).wall, .int .i64 (wmOf ⟨wx, wy, wz⟩ ((ps.drop 1).map (·.mark))).logic, .int .i64 (wmOf ⟨wx, wy, wz⟩ ((ps.drop 1).map (·.mark))).node]) ∧ G w w' := by
  have hTl : T < w.heap.size := blk_lt h.t
  have hgl : g < w.heap.size := blk_lt h.gblk.choose_spec
  have hall := wmL_all ⟨wx, wy, wz⟩ ps
  go_enter Tryd.func14, Tryd.ntmps14
  go_upto_region 1 with fail
  generalize hW0 : (w.alloc (.cells #[.int .i64 wx, .int .i64 wy, .int .i64 wz] 26)).alloc (.cells #[.int .i64 0, .int .i64 0, .int .i64 0] 26) = W0
  have hb3 : W0.heap[w.heap.size]? = some (.cells #[.int .i64 wx, .int .i64 wy, .int .i64 wz] 26 (0, 0)) := by rw [← hW0]; exact (G.new _ _).blk (blk_new w _ _)
  have hb4 : W0.heap[w.heap.size + 1]? = some (.cells #[.int .i64 0, .int .i64 0, .int .i64 0] 26 (0, 0)) := by rw [← hW0]; exact blk_new' _ _ _ _ (by simp)
  have hG0 : G w W0 := by rw [← hW0]; exact (G.new _ _).alloc _
  clear hW0
  have y0 := (blk_cell hb3 0).trans (show _ = some (Value.int .i64 wx) from rfl)
  have y1 := (blk_cell hb3 1).trans (show _ = some (Value.int .i64 wy) from rfl)
  have y2 := (blk_cell hb3 2).trans (show _ = some (Value.int .i64 wz) from rfl)
  have hr4 := blk_lt hb4
  replace hb3 := Lib.hid hb3
  replace hb4 := Lib.hid hb4
  replace hall := Lib.hid hall
  go_wp2_with fail
  go_loopw [5, 6] (fun v i wr => ∃ k : Nat, k ≤ ps.length ∧ i = .int .i64 k ∧ Hid (OwnL 26 3 St.cells wr W0.heap.size v (wmL ⟨wx, wy, wz⟩ ps k)) ∧ G W0 wr) (fun _ i _ => ps.length - (intOf i).toNat)
  case atStart =>
    refine ⟨0, Nat.zero_le _, rfl, ?_, G.new _ _⟩
    rw [wmL_zero]
    exact OwnL.made (base := W0.heap.size) St.cells_len [⟨wx, wy, wz⟩] (blk_new W0 _ _) rfl (Nat.le_refl _) (by simp)
  case round =>
    clear y0 y1 y2
    obtain ⟨k, hk, rfl, hown, hg⟩ := hrel
    have htab := h.grow (hG0.trans hg)
    have s0 := htab.self
    have s1 := htab.row
    by_cases hlt : k < ps.length
    · obtain ⟨p, hp⟩ : ∃ p, ps[k]? = some p := ⟨_, List.getElem?_eq_getElem hlt⟩
      have n1 : (0 : Int) ≤ (k : Int) := by omega
      have n2 : (k : Int) < (ps.length : Int) := by omega
      have v1 : IntKind.i64.wrap ((k : Int) + 1) = (k : Int) + 1 := by rw [IntKind.wrap_i64]; omega
      by_cases hk0 : k = 0
      · have t1 : ((k : Int) + 1 != 1) = false := by simp; omega
        have hown1 : OwnL 26 3 St.cells wr W0.heap.size u5 (wmL ⟨wx, wy, wz⟩ ps (k + 1)) := by
          have h1 := hown.out
          rw [hk0, wmL_zero] at h1
          rw [hk0, wmL_one]
          exact h1
        replace hown1 := Lib.hid hown1
        replace hk0 := Lib.hid hk0
        replace hp := Lib.hid hp
        clear htab
        go_wp2_with fail
        go_roundw
        case rel => exact ⟨k + 1, by omega, by go_num, hown1, hg⟩
        case measure => (simp [intOf] <;> omega)
      · have t1 : ((k : Int) + 1 != 1) = true := by simp; omega
        have hsn := wmL_succ (own := ⟨wx, wy, wz⟩) (show 1 ≤ k by omega) hp
        have hln := wmL_len ⟨wx, wy, wz⟩ ps k
        obtain ⟨pA, pc, pes, ⟨m1, m2, m3⟩⟩ := p
        obtain ⟨_, d1, d2, d3⟩ := htab.cells hp
        dsimp only at d1 d2 d3 hsn
        obtain ⟨XS, hXS⟩ : ∃ XS, wmL ⟨wx, wy, wz⟩ ps k = XS := ⟨_, rfl⟩
        rw [hXS] at hsn hln hown
        have hz := hg.size
        replace hsn := Lib.hid hsn
        replace hXS := Lib.hid hXS
        replace hp := Lib.hid hp
        replace hk0 := Lib.hid hk0
        clear htab
        go_wp2_with (at_builtin; refine wpList_append_list st_elem17 _ rfl (.tmp 25) (.tmp 34) rfl W0.heap.size _ XS rfl (hown.out.g (G.new _ _)) (wr.heap.size + 1) (some ⟨wr.heap.size, 0, none⟩) 1 [⟨m1, m2, m3⟩] rfl (by intro h; cases h) (Sl.of_blk St.cells_len _ (blk_new _ _ _) rfl (by omega)) (by simp; omega) (by simp; omega) (by simp; omega) ?_; intro v' w' hown' hkeep _; have hgk : G W0 w' := hkeep.g (hg.alloc _); rw [← hsn.out] at hown'; replace hown' := Lib.hid hown')
        go_roundw
        case rel => exact ⟨k + 1, by omega, by go_num, hown', hgk⟩
        case measure => (simp [intOf] <;> omega)
    · have hke : k = ps.length := by omega
      have hln := wmL_len ⟨wx, wy, wz⟩ ps ps.length
      rw [hke] at hown
      have hall2 := hall.out
      obtain ⟨XS, hXS⟩ : ∃ XS, wmL ⟨wx, wy, wz⟩ ps ps.length = XS := ⟨_, rfl⟩
      rw [hXS] at hln hown hall2
      obtain ⟨A9, c9, rfl, _, _, hsl⟩ := OwnL.sl St.cells_len hown.out
      have hmin := refMin_any XS A9 c9 wr.heap.size wr (Nat.le_refl _) (by omega) hsl
      rw [hall2] at hmin
      obtain ⟨⟨r1, r2, r3⟩, hr⟩ : ∃ r, wmOf ⟨wx, wy, wz⟩ ((ps.drop 1).map (·.mark)) = r := ⟨_, rfl⟩
      rw [hr] at hmin
      dsimp only at hmin
      have n2 : ¬ (k : Int) < (ps.length : Int) := by omega
      replace hmin := Lib.hid hmin
      replace hr := Lib.hid hr
      replace hXS := Lib.hid hXS
      replace hke := Lib.hid hke
      clear hown hsl hall2 htab
      go_wp2_with fail
      refine Calls.mono hmin.out ?_
      rintro e w3 ⟨rfl, hg3⟩
      obtain ⟨W2, SR, C2, hb2, hG2⟩ := store_blk (P := Tryd.prog) (T := 26) (cs := #[.int .i64 r1, .int .i64 r2, .int .i64 r3]) (hg3.blk (hg.blk hb4.out)) rfl (by kernel_rfl) (by kernel_rfl)
      replace hG2 := hG2 _ (hG0.trans (hg.trans hg3)) (by omega)
      replace C2 := Lib.hid C2
      clear hb2 s0 s1
      go_wp2_with (refine wpList_store_at (ty := 26) (x := .tmp 4) rfl (by kernel_rfl) (p := .pointer (some ⟨w.heap.size + 1, 0, none⟩)) (v := .agg #[.int .i64 r1, .int .i64 r2, .int .i64 r3]) rfl rfl SR ?_; clear SR)
      refine bodyPost_ret (v := .agg #[.int .i64 r1, .int .i64 r2, .int .i64 r3]) (results_cell (i := 4) rfl rfl C2.out Tryd.underlying26 rfl (by kernel_rfl)) rfl ?_
      exact ⟨by rw [hr.out], hG2⟩
end Go.Proofs.YthhhobfdlgmjlaaDoor
