/- penstockref27.Has: the document's answer, that of watch.Has. Conditions: lengths and numbers so small that nothing wraps. -/
import Derived.Test.YtgoodlbkjciloaaRefOne27
import Derived.Test.YtgoodlbkjciloaaRefMake
import Derived.Test.YtgoodlbkjciloaaHas
namespace Go.Proofs.Ytgoodlbkjciloaa
open Go.RowKit

theorem placeOf_first {es : List Ev} {x y : Ev} {p j : Nat} (h : placeOf es x = some p) (hj : j < p) (hy : es[j]? = some y) : alB y x = false := by
  unfold placeOf at h
  rw [List.findIdx?_eq_some_iff_getElem] at h
  obtain ⟨hp, _, hf⟩ := h
  obtain ⟨_, rfl⟩ := List.getElem?_eq_some_iff.1 hy
  have := hf j hj
  simpa using this
theorem placeOf_at {es : List Ev} {x y : Ev} {p : Nat} (h : placeOf es x = some p) (hy : es[p]? = some y) : alB y x = true := by
  unfold placeOf at h
  rw [List.findIdx?_eq_some_iff_getElem] at h
  obtain ⟨hp, h1, _⟩ := h
  obtain ⟨_, rfl⟩ := List.getElem?_eq_some_iff.1 hy
  exact h1
set_option maxRecDepth 100000 in
set_option maxHeartbeats 8000000 in
theorem refHas_any (es : List Ev) (Ae : Option Addr) (ce : Nat) (key : ByteArray) (ps : List PutM) (A Af : Option Addr) (c cf : Nat) (fs : List Int) (x y z rc k0 k1 k2 k3 rn : Int) (k4 : ByteArray) (ve vr : Value) (w : World)
    (hse : Sl Ev.cells 7 w w.heap.size Ae es) (hle : es.length ≤ 1099511627776) (hl : ps.length ≤ 9223372036854775807) (hl2 : fs.length ≤ 9223372036854775807) (hn : evCount ps ≤ 1099511627776)
    (hf : ∀ f ∈ fs, -1099511627776 ≤ f ∧ f ≤ 1099511627776) (hs : PutsIn w w.heap.size A ps) (hs2 : Sl intC 1 w w.heap.size Af fs) :
    Calls Try.prog 17 #[.slice Ae es.length ce, .agg #[.string key, .slice A ps.length c], .agg #[.int .i64 rc, .int .i64 x, .int .i64 y, .int .i64 z, .slice Af fs.length cf, ve, .int .i64 k0, .int .i64 k1, .int .i64 k2, .int .i64 k3, .string k4, vr, .int .i64 rn]] w
      fun e w' => e = .returned (.bool (hasB es (makeFrom fs ⟨x, y, z⟩ 0 0 ps) ⟨x, y, z⟩)) ∧ G w w' := by
  have hnq := @st_neq
  obtain ⟨want, hwant⟩ : ∃ want, makeFrom fs ⟨x, y, z⟩ 0 0 ps = want := ⟨_, rfl⟩
  rw [hwant]
  go_enter Try.func17, Try.ntmps17
  go_upto_region 1 with fail
  generalize hW0 : (w.alloc (.cells #[.string key, .slice A ps.length c] 24)).alloc (.cells #[.int .i64 rc, .int .i64 x, .int .i64 y, .int .i64 z, .slice Af fs.length cf, ve, .int .i64 k0, .int .i64 k1, .int .i64 k2, .int .i64 k3, .string k4, vr, .int .i64 rn] 42) = W0
  have hz : w.heap.size + 1 < W0.heap.size := by rw [← hW0]; simp
  have hG0 : G w W0 := by rw [← hW0]; exact (G.new _ _).alloc _
  have r0 : W0.cell? ⟨w.heap.size, 0, none⟩ = some (.string key) := by rw [← hW0]; simp
  have r1 : W0.cell? ⟨w.heap.size, 1, none⟩ = some (.slice A ps.length c) := by rw [← hW0]; simp
  have r2 : W0.cell? ⟨w.heap.size + 1, 0, none⟩ = some (.int .i64 rc) := by rw [← hW0]; simp
  have r3 : W0.cell? ⟨w.heap.size + 1, 1, none⟩ = some (.int .i64 x) := by rw [← hW0]; simp
  have r4 : W0.cell? ⟨w.heap.size + 1, 2, none⟩ = some (.int .i64 y) := by rw [← hW0]; simp
  have r5 : W0.cell? ⟨w.heap.size + 1, 3, none⟩ = some (.int .i64 z) := by rw [← hW0]; simp
  have r6 : W0.cell? ⟨w.heap.size + 1, 4, none⟩ = some (.slice Af fs.length cf) := by rw [← hW0]; simp
  have r7 : W0.cell? ⟨w.heap.size + 1, 5, none⟩ = some (ve) := by rw [← hW0]; simp
  have r8 : W0.cell? ⟨w.heap.size + 1, 6, none⟩ = some (.int .i64 k0) := by rw [← hW0]; simp
  have r9 : W0.cell? ⟨w.heap.size + 1, 7, none⟩ = some (.int .i64 k1) := by rw [← hW0]; simp
  have r10 : W0.cell? ⟨w.heap.size + 1, 8, none⟩ = some (.int .i64 k2) := by rw [← hW0]; simp
  have r11 : W0.cell? ⟨w.heap.size + 1, 9, none⟩ = some (.int .i64 k3) := by rw [← hW0]; simp
  have r12 : W0.cell? ⟨w.heap.size + 1, 10, none⟩ = some (.string k4) := by rw [← hW0]; simp
  have r13 : W0.cell? ⟨w.heap.size + 1, 11, none⟩ = some (vr) := by rw [← hW0]; simp
  have r14 : W0.cell? ⟨w.heap.size + 1, 12, none⟩ = some (.int .i64 rn) := by rw [← hW0]; simp
  clear hW0
  have q0 : ∀ w', G W0 w' → w'.cell? ⟨w.heap.size, 0, none⟩ = some (.string key) := fun w' h => (h.cell (by omega)).trans r0
  have q1 : ∀ w', G W0 w' → w'.cell? ⟨w.heap.size, 1, none⟩ = some (.slice A ps.length c) := fun w' h => (h.cell (by omega)).trans r1
  have q2 : ∀ w', G W0 w' → w'.cell? ⟨w.heap.size + 1, 0, none⟩ = some (.int .i64 rc) := fun w' h => (h.cell (by omega)).trans r2
  have q3 : ∀ w', G W0 w' → w'.cell? ⟨w.heap.size + 1, 1, none⟩ = some (.int .i64 x) := fun w' h => (h.cell (by omega)).trans r3
  have q4 : ∀ w', G W0 w' → w'.cell? ⟨w.heap.size + 1, 2, none⟩ = some (.int .i64 y) := fun w' h => (h.cell (by omega)).trans r4
  have q5 : ∀ w', G W0 w' → w'.cell? ⟨w.heap.size + 1, 3, none⟩ = some (.int .i64 z) := fun w' h => (h.cell (by omega)).trans r5
  have q6 : ∀ w', G W0 w' → w'.cell? ⟨w.heap.size + 1, 4, none⟩ = some (.slice Af fs.length cf) := fun w' h => (h.cell (by omega)).trans r6
  have q7 : ∀ w', G W0 w' → w'.cell? ⟨w.heap.size + 1, 5, none⟩ = some (ve) := fun w' h => (h.cell (by omega)).trans r7
  have q8 : ∀ w', G W0 w' → w'.cell? ⟨w.heap.size + 1, 6, none⟩ = some (.int .i64 k0) := fun w' h => (h.cell (by omega)).trans r8
  have q9 : ∀ w', G W0 w' → w'.cell? ⟨w.heap.size + 1, 7, none⟩ = some (.int .i64 k1) := fun w' h => (h.cell (by omega)).trans r9
  have q10 : ∀ w', G W0 w' → w'.cell? ⟨w.heap.size + 1, 8, none⟩ = some (.int .i64 k2) := fun w' h => (h.cell (by omega)).trans r10
  have q11 : ∀ w', G W0 w' → w'.cell? ⟨w.heap.size + 1, 9, none⟩ = some (.int .i64 k3) := fun w' h => (h.cell (by omega)).trans r11
  have q12 : ∀ w', G W0 w' → w'.cell? ⟨w.heap.size + 1, 10, none⟩ = some (.string k4) := fun w' h => (h.cell (by omega)).trans r12
  have q13 : ∀ w', G W0 w' → w'.cell? ⟨w.heap.size + 1, 11, none⟩ = some (vr) := fun w' h => (h.cell (by omega)).trans r13
  have q14 : ∀ w', G W0 w' → w'.cell? ⟨w.heap.size + 1, 12, none⟩ = some (.int .i64 rn) := fun w' h => (h.cell (by omega)).trans r14
  clear r0 r1 r2 r3 r4 r5 r6 r7 r8 r9 r10 r11 r12 r13 r14
  have hmk := refMake_any key ps A Af c cf w.heap.size fs ⟨x, y, z⟩ 0 W0 hG0.size hl hl2 hn hf (by omega) (hs.g (Nat.le_refl _) hG0) (hs2.g (Nat.le_refl _) hG0)
  have hg1 := G.refl W0
  have g0 := q0 _ hg1
  have g1 := q1 _ hg1
  have g3 := q3 _ hg1
  have g4 := q4 _ hg1
  have g5 := q5 _ hg1
  have g6 := q6 _ hg1
  rw [hwant] at hmk
  have hlw : want.length ≤ 1099511627776 := by
    rw [← hwant]
    exact Nat.le_trans (Nat.le_of_eq (makeFrom_len _ _ _ _ _)) hn
  replace hwant := Lib.hid hwant
  replace hnq := Lib.hid hnq
  go_wp2_with fail
  refine hmk.mono ?_
  clear hmk
  rintro e w2 ⟨v3, rfl, hown3, hg02⟩
  obtain ⟨A3, c3, rfl, hsl3⟩ := Own.sl hown3
  have hgA := hG0.trans hg02
  have hse2 := hse.g (Nat.le_refl _) hgA
  have hsz2 := hgA.size
  have hB3 : W0.heap.size ≤ w2.heap.size := hg02.size
  clear hown3 g0 g1 g3 g4 g5 g6
  replace hsl3 := Lib.hid hsl3
  replace hse2 := Lib.hid hse2
  go_wp2_with fail
  go_loopw [8, 9, 10] (fun lo hi i wr => ∃ (k : Nat) (lov hiv : Int) (g : ByteArray → Int), lo = .int .i64 lov ∧ hi = .int .i64 hiv ∧ i = .int .i64 k ∧ k ≤ want.length ∧ (0 ≤ lov ∧ lov ≤ es.length ∧ -1 ≤ hiv ∧ hiv < es.length ∨ es.length = lov ∧ hiv = -1) ∧ Hid (hasGo es want (fun _ => 0) es.length (-1) = hasGo es (want.drop k) g lov hiv) ∧ Hid (HasInv es want k g) ∧ G w2 wr) (fun _ _ i _ => want.length - (intOf i).toNat)
  case atStart => exact ⟨0, es.length, -1, _, rfl, rfl, rfl, Nat.zero_le _, .inr ⟨rfl, rfl⟩, by simp [Hid], HasInv.zero _ _, G.refl _⟩
  case round =>
    obtain ⟨wo, rfl⟩ : ∃ wo : World, wo = wr := ⟨_, rfl⟩
    obtain ⟨k, lov, hiv, g, rfl, rfl, rfl, hkl, hlh, hh, hinv, hgr⟩ := hrel
    have hg := hgA.trans hgr
    by_cases hlt : k < want.length
    · obtain ⟨⟨s1, v1, d1, ⟨a1, b1, c1⟩, i1⟩, hx⟩ : ∃ x, want[k]? = some x := ⟨_, List.getElem?_eq_getElem hlt⟩
      have hgo := hasGo_drop (l := es) (f := g) (lo := lov) (hi := hiv) hx
      obtain ⟨b, o, rfl, hb, e0, e1, e2, e3, e4, e5, e6⟩ := hsl3.out.evG (by omega) hx
      have n1 : (0 : Int) ≤ (k : Int) := by omega
      have n2 : (k : Int) < (want.length : Int) := by omega
      dsimp only at e0 e1 e2 e3 e4 e5 e6 hgo
      have hx2 := Lib.hid hx
      replace hgo := Lib.hid hgo
      clear hx
      go_wp2_with fail
      go_loopw [11, 12] (fun a q' wr => ∃ q : Nat, q' = .int .i64 q ∧ q ≤ es.length ∧ (a = .int .i64 (-1) ∧ Hid (∀ (j : Nat) u, j < q → es[j]? = some u → alB u ⟨s1, v1, d1, ⟨a1, b1, c1⟩, i1⟩ = false) ∨ ∃ p : Nat, a = .int .i64 p ∧ p < es.length ∧ Hid (placeOf es ⟨s1, v1, d1, ⟨a1, b1, c1⟩, i1⟩ = some p)) ∧ G wo wr) (fun _ q _ => es.length - (intOf q).toNat)
      case atStart => exact ⟨0, rfl, Nat.zero_le _, .inl ⟨rfl, fun j u h => absurd h (Nat.not_lt_zero _)⟩, G.refl _⟩
      case round =>
        obtain ⟨wp, rfl⟩ : ∃ wp : World, wp = wr := ⟨_, rfl⟩
        obtain ⟨q, rfl, hql, hcase, hgw⟩ := hrel
        have hg2p := hgr.trans hgw
        rcases hcase with ⟨rfl, hno⟩ | ⟨p, rfl, hpl, hplc⟩
        · by_cases hqlt : q < es.length
          · obtain ⟨⟨s2, v2, d2, ⟨a2, b2, c2⟩, i2⟩, hy⟩ : ∃ x, es[q]? = some x := ⟨_, List.getElem?_eq_getElem hqlt⟩
            obtain ⟨b', o', rfl, hb', f0, f1, f2, f3, f4, f5, f6⟩ := hse2.out.evG hsz2 hy
            dsimp only at f0 f1 f2 f3 f4 f5 f6
            have m1 : (0 : Int) ≤ (q : Int) := by omega
            have m2 : (q : Int) < (es.length : Int) := by omega
            have hal := fun w' => alike_any s2 d2 s1 d1 v2 a2 b2 c2 i2 v1 a1 b1 c1 i1 w'
            cases hr : alB ⟨s2, v2, d2, ⟨a2, b2, c2⟩, i2⟩ ⟨s1, v1, d1, ⟨a1, b1, c1⟩, i1⟩ with
            | true =>
              rw [hr] at hal
              have hplc : placeOf es ⟨s1, v1, d1, ⟨a1, b1, c1⟩, i1⟩ = some q := placeOf_some hy hr hno.out
              replace hal := Lib.hid hal
              replace hplc := Lib.hid hplc
              clear hr hy hno
              go_wp2_with fail
              go_region_held3 (fun w' => G w2 w') (first | exact hg2p.drew | exact hg2p | exact hgm.keep (by assumption) | assumption | fail) (first | (go_at_call 29; (with_reducible refine Calls.mono (hal.out _) ?_); rintro e wm ⟨rfl, hgm⟩))
              all_goals
                have hGm : G w2 wm := by assumption
                go_wp2_with fail
                go_roundw
                case rel => exact ⟨q + 1, by go_num, by omega, .inr ⟨q, rfl, hqlt, hplc⟩, by first | exact hgw.trans hgm | exact hgw.trans (hgm.trans (G.refl _)) | exact (hgw.drew).trans hgm | exact (hgw.drewN _).trans hgm⟩
                case measure => (simp [intOf] <;> omega)
            | false =>
              rw [hr] at hal
              have hno2 : ∀ (j : Nat) u, j < q + 1 → es[j]? = some u → alB u ⟨s1, v1, d1, ⟨a1, b1, c1⟩, i1⟩ = false := fun j u h1 h2 => by
                rcases Nat.lt_or_ge j q with h | h
                · exact hno.out j u h h2
                · obtain rfl : j = q := by omega
                  rw [hy] at h2
                  cases h2
                  exact hr
              replace hal := Lib.hid hal
              replace hno2 := Lib.hid hno2
              clear hr hy hno
              go_wp2_with fail
              go_region_held3 (fun w' => G w2 w') (first | exact hg2p.drew | exact hg2p | exact hgm.keep (by assumption) | assumption | fail) (first | (go_at_call 29; (with_reducible refine Calls.mono (hal.out _) ?_); rintro e wm ⟨rfl, hgm⟩))
              all_goals
                have hGm : G w2 wm := by assumption
                go_wp2_with fail
                go_roundw
                case rel => exact ⟨q + 1, by go_num, by omega, .inl ⟨rfl, hno2⟩, by first | exact hgw.trans hgm | exact hgw.trans (hgm.trans (G.refl _)) | exact (hgw.drew).trans hgm | exact (hgw.drewN _).trans hgm⟩
                case measure => (simp [intOf] <;> omega)
          · obtain rfl : q = es.length := by omega
            have hpn : placeOf es ⟨s1, v1, d1, ⟨a1, b1, c1⟩, i1⟩ = none := placeOf_none fun u hu => by
              obtain ⟨j, hj, rfl⟩ := List.getElem_of_mem hu
              exact hno.out j _ hj (List.getElem?_eq_getElem hj)
            have hfin : hasB es want ⟨x, y, z⟩ = false := by unfold hasB; rw [hh.out, hgo.out, hpn]
            replace hfin := Lib.hid hfin
            clear hno hpn hgo hh hinv
            go_wp2_with fail
            go_ret
            exact ⟨by rw [hfin.out]; rfl, hgA.trans hg2p⟩
        · have hgo1 := hgo.out
          rw [hplc.out] at hgo1
          simp only at hgo1
          replace hgo1 := Lib.hid hgo1
          clear hgo
          have t1 : decide ((p : Int) < 0) = false := decide_eq_false (by omega)
          have t1' : ¬ (p : Int) < 0 := by omega
          rcases Nat.lt_or_ge q es.length with hqc | hqc
          all_goals
            go_wp2_with fail
            go_loopw [13] (fun j' wr => ∃ j : Nat, j' = .int .i64 j ∧ j ≤ k ∧ Hid (∀ (i : Nat) u q, i < j → want[i]? = some u → u.stream = s1 → placeOf es u = some q → q < p) ∧ G wp wr) (fun j _ => k - (intOf j).toNat)
            case atStart => exact ⟨0, rfl, Nat.zero_le _, fun i u q h => absurd h (Nat.not_lt_zero _), G.refl _⟩
            case round =>
              obtain ⟨wq, rfl⟩ : ∃ wq : World, wq = wr := ⟨_, rfl⟩
              obtain ⟨j, rfl, hjk, hall, hgq⟩ := hrel
              have hg2q := hg2p.trans hgq
              by_cases hjlt : j < k
              · obtain ⟨⟨s3, v3, d3, ⟨a3, b3, c3'⟩, i3⟩, hu⟩ : ∃ x, want[j]? = some x := ⟨_, List.getElem?_eq_getElem (by omega)⟩
                obtain ⟨_, _, ee, hb3, h0, h1, h2, h3, h4, h5, h6⟩ := hsl3.out.evG (by omega) hu
                cases ee
                obtain ⟨kk, hkk, hkg⟩ := hinv.out.up j _ hjlt hu
                have hkl2 := placeOf_lt hkk
                dsimp only at h0 h1 h2 h3 h4 h5 h6 hkg
                have m1 : (0 : Int) ≤ (j : Int) := by omega
                have m2 : (j : Int) < (want.length : Int) := by omega
                have m3 : (j : Int) < (k : Int) := by omega
                have j0 := h0 _ hg2q
                have l0 := e0 _ hg2q
                by_cases hst : s3 = s1
                · have t4 : (s3.toList == s1.toList) = true := by rw [bytes_beq]; exact decide_eq_true hst
                  have hall2 : kk < p → ∀ (i : Nat) u q, i < j + 1 → want[i]? = some u → u.stream = s1 → placeOf es u = some q → q < p := fun hp i u q u1 u2 u3 u4 => by
                    rcases Nat.lt_or_ge i j with h | h
                    · exact hall.out i u q h u2 u3 u4
                    · obtain rfl : i = j := by omega
                      rw [hu] at u2
                      cases u2
                      rw [hkk] at u4
                      cases u4
                      exact hp
                  have htorn : p ≤ kk → (p : Int) < g s1 := fun hp => hinv.out.torn hjlt hu hst hkk hp
                  replace hall2 := Lib.hid hall2
                  replace htorn := Lib.hid htorn
                  replace hst := Lib.hid hst
                  replace hu := Lib.hid hu
                  replace hkk := Lib.hid hkk
                  clear hkg
                  go_upto_region 18 with fail
                  go_quiet (fail)
                  go_wp2_with fail
                  clear j0 l0
                  go_loopw [14] (fun q' wr => ∃ q : Nat, q' = .int .i64 q ∧ q ≤ kk ∧ G wp wr) (fun q _ => es.length - (intOf q).toNat)
                  case atStart => exact ⟨0, rfl, Nat.zero_le _, by first | exact hgq | exact hgq.drew | exact hgq.drewN _⟩
                  case round =>
                    obtain ⟨wt, rfl⟩ : ∃ wt : World, wt = wr := ⟨_, rfl⟩
                    obtain ⟨qq, rfl, hqk, hgt⟩ := hrel
                    have hg2t := hg2p.trans hgt
                    obtain ⟨⟨s2, v2, d2, ⟨a2, b2, c2⟩, i2⟩, hy⟩ : ∃ x, es[qq]? = some x := ⟨_, List.getElem?_eq_getElem (by omega)⟩
                    obtain ⟨b', o', rfl, hb', f0, f1, f2, f3, f4, f5, f6⟩ := hse2.out.evG hsz2 hy
                    dsimp only at f0 f1 f2 f3 f4 f5 f6
                    have p1 : (0 : Int) ≤ (qq : Int) := by omega
                    have p2 : (qq : Int) < (es.length : Int) := by omega
                    have hal := fun w' => alike_any s2 d2 s3 d3 v2 a2 b2 c2 i2 v3 a3 b3 c3' i3 w'
                    by_cases hqe : qq = kk
                    · subst hqe
                      rw [placeOf_at hkk.out hy] at hal
                      replace hal := Lib.hid hal
                      clear hy
                      by_cases hge : p ≤ qq
                      · have t5 : decide ((p : Int) ≤ (qq : Int)) = true := decide_eq_true (by omega)
                        have t5' : (p : Int) ≤ (qq : Int) := by omega
                        have hfin : hasB es want ⟨x, y, z⟩ = false := by unfold hasB; rw [hh.out, hgo1.out, if_pos (htorn.out hge)]
                        replace hfin := Lib.hid hfin
                        clear hge
                        go_wp2_with fail
                        go_region_held3 (fun w' => G w2 w') (first | exact hg2t.drew | exact hg2t | exact hgm.keep (by assumption) | assumption | fail) (first | (go_at_call 29; (with_reducible refine Calls.mono (hal.out _) ?_); rintro e wm ⟨rfl, hgm⟩))
                        all_goals
                          have hGm : G w2 wm := by assumption
                          go_wp2_with fail
                          go_ret
                          exact ⟨by rw [hfin.out]; rfl, hgA.trans hGm⟩
                      · have t5 : decide ((p : Int) ≤ (qq : Int)) = false := decide_eq_false (by omega)
                        have t5' : ¬ (p : Int) ≤ (qq : Int) := by omega
                        have hall3 := Lib.hid (hall2.out (by omega))
                        clear hge hall2 htorn
                        go_wp2_with fail
                        go_region_held3 (fun w' => G w2 w') (first | exact hg2t.drew | exact hg2t | exact hgm.keep (by assumption) | assumption | fail) (first | (go_at_call 29; (with_reducible refine Calls.mono (hal.out _) ?_); rintro e wm ⟨rfl, hgm⟩))
                        all_goals
                          have hGm : G w2 wm := by assumption
                          go_wp2_with fail
                          go_roundw
                          case rel => exact ⟨j + 1, by go_num, by omega, hall3, by first | exact hgt.trans hgm | exact (hgt.drew).trans hgm | exact (hgt.drewN _).trans hgm⟩
                          case measure => (simp [intOf] <;> omega)
                    · rw [placeOf_first hkk.out (by omega) hy] at hal
                      replace hal := Lib.hid hal
                      clear hy
                      go_wp2_with fail
                      go_region_held3 (fun w' => G w2 w') (first | exact hg2t.drew | exact hg2t | exact hgm.keep (by assumption) | assumption | fail) (first | (go_at_call 29; (with_reducible refine Calls.mono (hal.out _) ?_); rintro e wm ⟨rfl, hgm⟩))
                      all_goals
                        have hGm : G w2 wm := by assumption
                        go_wp2_with fail
                        go_roundw
                        case rel => exact ⟨qq + 1, by go_num, by omega, by first | exact hgt.trans hgm | exact (hgt.drew).trans hgm | exact (hgt.drewN _).trans hgm⟩
                        case measure => (simp [intOf] <;> omega)
                · have t4 : (s3.toList == s1.toList) = false := by rw [bytes_beq]; exact decide_eq_false hst
                  have hall3 : ∀ (i : Nat) u q, i < j + 1 → want[i]? = some u → u.stream = s1 → placeOf es u = some q → q < p := fun i u q u1 u2 u3 u4 => by
                    rcases Nat.lt_or_ge i j with h | h
                    · exact hall.out i u q h u2 u3 u4
                    · obtain rfl : i = j := by omega
                      rw [hu] at u2
                      cases u2
                      exact absurd u3 hst
                  replace hall3 := Lib.hid hall3
                  replace hst := Lib.hid hst
                  replace hu := Lib.hid hu
                  replace hkk := Lib.hid hkk
                  clear hkg hall
                  go_upto_region 18 with fail
                  go_quiet (fail)
                  go_wp2_with fail
                  go_roundw
                  case rel => exact ⟨j + 1, by go_num, by omega, hall3, by first | exact hgq | exact hgq.drew | exact hgq.drewN _⟩
                  case measure => (simp [intOf] <;> omega)
              · obtain rfl : j = k := by omega
                have hnl : ¬ (p : Int) < g s1 := hinv.out.fine hall.out
                have hgo2 := hgo1.out
                rw [if_neg hnl] at hgo2
                have hinv2 := hinv.out.succ hx2.out hplc.out hnl
                replace hgo2 := Lib.hid hgo2
                replace hinv2 := Lib.hid hinv2
                clear hnl hall hgo1
                go_wp2_with fail
                go_roundw
                case rel => exact ⟨j + 1, min lov p, max hiv p, upd g s1 ((p : Int) + 1), by go_num, by go_num, by go_num, by omega, by omega, hh.out.trans hgo2.out, hinv2, hg2q⟩
                case measure => (simp [intOf] <;> omega)
    · have hfin : hasB es want ⟨x, y, z⟩ = spanB es lov hiv ⟨x, y, z⟩ := by unfold hasB; rw [hh.out, List.drop_eq_nil_of_le (by omega)]; rfl
      replace hfin := Lib.hid hfin
      clear hh hinv
      go_wp2_with fail
      go_loopw [15] (fun i wr => ∃ q : Int, i = .int .i64 q ∧ lov ≤ q ∧ (q ≤ hiv + 1 ∨ q = lov) ∧ Hid (∀ (j : Nat) e, lov ≤ j → (j : Int) < q → es[j]? = some e → e.st = ⟨x, y, z⟩) ∧ G wo wr) (fun i _ => (hiv + 1 - intOf i).toNat)
      case atStart => exact ⟨lov, rfl, Int.le_refl _, .inr rfl, fun j e h1 h2 => by omega, G.refl _⟩
      case round =>
        obtain ⟨q, rfl, hq1, hq2, hall, hgw⟩ := hrel
        have hgt := hg.trans hgw
        have hgw0 := (hg02.trans hgr).trans hgw
        by_cases hq : q ≤ hiv
        · obtain ⟨j, rfl⟩ : ∃ j : Nat, q = j := ⟨q.toNat, by omega⟩
          have hj : j < es.length := by omega
          obtain ⟨⟨s1, v1, d1, ⟨a1, b1, c1⟩, i1⟩, hx⟩ : ∃ x, es[j]? = some x := ⟨_, List.getElem?_eq_getElem hj⟩
          obtain ⟨b, o, rfl, hb, _, _, _, e3, e4, e5, _⟩ := (hse.g (Nat.le_refl _) hgt).ev hx
          have g3 := q3 _ hgw0
          have g4 := q4 _ hgw0
          have g5 := q5 _ hgw0
          have n1 : (0 : Int) ≤ (j : Int) := by omega
          have n2 : (j : Int) < (es.length : Int) := by omega
          have hnq := hnq.out
          dsimp only at e3 e4 e5
          by_cases hs : (⟨a1, b1, c1⟩ : St) = ⟨x, y, z⟩
          · have t1 : stB ⟨a1, b1, c1⟩ ⟨x, y, z⟩ = true := decide_eq_true hs
            have hall2 : ∀ (i : Nat) e, lov ≤ i → (i : Int) < ((j : Int) + 1) → es[i]? = some e → e.st = ⟨x, y, z⟩ := fun i e h1 h2 h3 => by
              rcases Nat.lt_or_ge i j with h | h
              · exact hall.out i e h1 (by omega) h3
              · obtain rfl : i = j := by omega
                rw [hx] at h3
                cases h3
                exact hs
            replace hall2 := Lib.hid hall2
            replace hx := Lib.hid hx
            clear hs hall
            go_upto_region 30 with fail
            go_quiet (fail)
            clear hnq
            go_wp2_with fail
            go_roundw
            case rel => exact ⟨(j : Int) + 1, by go_num, by omega, by omega, hall2, by first | exact hgw | exact hgw.drew | exact hgw.drewN _⟩
            case measure => (simp [intOf] <;> omega)
          · have t1 : stB ⟨a1, b1, c1⟩ ⟨x, y, z⟩ = false := decide_eq_false hs
            have hsp : spanB es lov hiv ⟨x, y, z⟩ = false := spanB_false hx hq1 hq hs
            replace hsp := Lib.hid hsp
            replace hx := Lib.hid hx
            clear hs hall
            go_upto_region 30 with fail
            go_quiet (fail)
            clear hnq
            go_wp2_with fail
            go_ret
            exact ⟨by rw [hfin.out, hsp.out]; rfl, by first | exact hgt | exact hgt.drew | exact hgt.drewN _⟩
        · have hsp : spanB es lov hiv ⟨x, y, z⟩ = true := spanB_true fun k e h1 h2 h3 => hall.out k e h1 (by omega) h3
          replace hsp := Lib.hid hsp
          clear hall
          go_wp2_with fail
          go_ret
          exact ⟨by rw [hfin.out, hsp.out]; rfl, hgt⟩
end Go.Proofs.Ytgoodlbkjciloaa
