/- penstocklaw29.WatchTorn returns true for every input and leaves its arguments as they were. No condition. -/
import Derived.Test.YtnenabacbhepdaaTorn
import Derived.Test.YtnenabacbhepdaaAwake29
import Derived.Test.YtnenabacbhepdaaReadLogs
import Derived.Test.YtnenabacbhepdaaRows
namespace Go.Proofs.Ytnenabacbhepdaa.watchTorn
open Go.RowKit

/-- One of a single list, in a block of its own. -/
theorem one_single (es : List Ev) (A : Option Addr) (c B : Nat) (w : World) (hB : B ≤ w.heap.size) (hs : Sl Ev.cells 7 w B A es) (hl : es.length ≤ 1099511627776) (hc : es.length ≤ c) (hcm : c ≤ 9223372036854775807) :
    Calls Try.prog 19 #[.slice (some ⟨w.heap.size, 0, none⟩) 1 1] (w.alloc (.cells #[.slice A es.length c] 31))
      (RetEvsB (w.alloc (.cells #[.slice A es.length c] 31)) (longOf [⟨A, c, es⟩]).es (allPre [⟨A, c, es⟩] (longOf [⟨A, c, es⟩]).es && sortedB (longOf [⟨A, c, es⟩]).es)) :=
  one_any [⟨A, c, es⟩] (some ⟨w.heap.size, 0, none⟩) 1 (w.heap.size + 1) _ (by simp) (by simp) (by intro l hl; simp at hl; subst hl; assumption)
    ⟨Sl.of_blk LogM.cells_len _ (blk_new w _ _) rfl (by omega), fun l hl => by simp at hl; subst hl; exact ⟨(hs.g hB (G.new _ _)).more (by omega), hc, hcm⟩⟩
/-- The slice from k on. -/
theorem sl_from {w : World} {B : Nat} {b o : Nat} {es : List Ev} (h : Sl Ev.cells 7 w B (some ⟨b, o, none⟩) es) (k : Nat) : Sl Ev.cells 7 w B (some ⟨b, o + k * 7, none⟩) (es.drop k) := fun hne => by
  obtain ⟨b', o', e, hb, hc⟩ := h (by rintro rfl; simp at hne)
  cases e
  refine ⟨b, o + k * 7, rfl, hb, fun j x hx i u hu => ?_⟩
  rw [List.getElem?_drop] at hx
  have := hc (k + j) x hx i u hu
  rw [Nat.add_mul] at this
  rw [show o + k * 7 + j * 7 + i = o + (k * 7 + j * 7) + i from by omega]
  exact this

set_option maxHeartbeats 2000000 in
theorem walk (n k how : Int) (w : World) (hn : I64 n) (hk : I64 k) (hh : I64 how) :
    Calls Try.prog 8 #[.int .i64 n, .int .i64 k, .int .i64 how] w fun e w' => e = .returned (.bool true) ∧ G w w' := by
  by_cases hsmall : ¬ (2 ≤ n ∧ n ≤ 40)
  · by_cases h2 : n < 2
    all_goals
      go_enter Try.func8, Try.ntmps8
      go_wp2_with (go_at_call 18; refine (awake29_any _).mono ?_; rintro e w3 ⟨rfl, hg3⟩)
      go_ret
      exact ⟨rfl, hg3⟩
  rw [Classical.not_not] at hsmall
  obtain ⟨hn2, hn40⟩ := hsmall
  obtain ⟨n, rfl⟩ := Int.eq_ofNat_of_zero_le (show 0 ≤ n by omega)
  obtain ⟨hk1, hk2⟩ := hk
  obtain ⟨hh1, hh2⟩ := hh
  clear hn
  go_enter Try.func8, Try.ntmps8
  go_wp2_with fail
  go_loopw [7, 8] (fun v i wr => ∃ (j : Nat), j ≤ n ∧ i = .int .i64 j ∧ OwnL 44 7 Ev.cells wr w.heap.size v (feedT 0 j) ∧ G w wr) (fun _ i _ => n - (intOf i).toNat)
  case atStart => exact ⟨0, Nat.zero_le _, rfl, OwnL.nil, G.refl _⟩
  case round =>
    obtain ⟨j, hj, rfl, hown, hg⟩ := hrel
    have hlen := feedT_length 0 j
    have hlen1 : (feedT 0 j).length ≤ 40 := by omega
    replace hlen := Lib.hid hlen
    by_cases hlt : j < n
    · go_wp2_with (at_builtin; refine wpList_append_list ev_elem _ rfl (.tmp 26) (.tmp 33) rfl w.heap.size _ (feedT 0 j) rfl (hown.g (G.new _ _)) (wr.heap.size + 1) (some ⟨wr.heap.size, 0, none⟩) 1 [evT j] rfl (by intro h; cases h) (Sl.of_blk Ev.cells_len _ (blk_new _ _ _) rfl (by omega)) (by simp; omega) (by simp; omega) (by have := hg.size; simp; omega) ?_; intro v' w' hown' hkeep _)
      go_roundw
      case rel => exact ⟨j + 1, by omega, by go_num, by rw [feedT_succ, Nat.zero_add]; exact hown', hkeep.g (hg.alloc _)⟩
      case measure => simp [intOf]; omega
    · obtain rfl : j = n := by omega
      obtain ⟨lA, lc, rfl, hlc, hlm, hls⟩ := OwnL.sl Ev.cells_len hown
      rw [hlen.out] at hlc ⊢
      clear hlt hj
      go_wp2_with fail
      refine (round_any k ((j : Int) - 1) wr (by omega) (by omega) hk1 hk2).mono ?_
      have e1 := Int.emod_nonneg k (show ((j : Int) - 1) ≠ 0 by omega)
      have e2 := Int.emod_lt_of_pos k (show 0 < (j : Int) - 1 by omega)
      rintro e w3 ⟨rfl, rfl⟩
      obtain ⟨r, hr⟩ := Int.eq_ofNat_of_zero_le e1
      rw [hr] at e1 e2
      rw [hr]
      clear hr e1
      have hr2 : r + 2 ≤ j := by omega
      clear e2
      obtain ⟨b, o, rfl⟩ : ∃ b o, lA = some ⟨b, o, none⟩ := by
        obtain ⟨b, o, e, _⟩ := hls (by intro h; rw [h] at hlen; have := hlen.out; simp at this; omega)
        exact ⟨b, o, e⟩
      have hfk : Sl Ev.cells 7 wr wr.heap.size (some ⟨b, o, none⟩) (feedT 0 r) := by have := hls.take r; rwa [feedT_take 0 j r (by omega)] at this
      go_wp2_with (at_builtin; refine wpList_append_list ev_elem _ rfl (.tmp 39) (.tmp 42) rfl wr.heap.size _ [] rfl OwnL.nil wr.heap.size (some ⟨b, o, none⟩) lc (feedT 0 r) (by rw [feedT_length]; rfl) (by intro h; cases h) hfk (by rw [feedT_length]; simp; omega) (by rw [feedT_length]; simp; omega) (by simp) ?_; intro m1 w1 hown1 hkeep1 _; rw [List.nil_append] at hown1)
      have hg1 : G wr w1 := hkeep1.g (G.refl _)
      clear hkeep1 hfk hown
      refine (round_any how 3 w1 (by omega) (by omega) hh1 hh2).mono ?_
      have e1 := Int.emod_nonneg how (show (3 : Int) ≠ 0 by omega)
      have e2 := Int.emod_lt_of_pos how (show (0 : Int) < 3 by omega)
      rintro e w3 ⟨rfl, rfl⟩
      obtain ⟨q, hq⟩ := Int.eq_ofNat_of_zero_le e1
      rw [hq] at e1 e2
      rw [hq]
      clear hq e1
      have hq3 : q = 0 ∨ q = 1 ∨ q = 2 := by omega
      clear e2
      rcases hq3 with rfl | rfl | rfl
      · have hne : ¬ lc = r + 1 := by omega
        have hf2 : Sl Ev.cells 7 wr wr.heap.size (some ⟨b, o + (r + 1) * 7, none⟩) (feedT (r + 1) (j - (r + 1))) := by have := sl_from hls (r + 1); rwa [feedT_drop, Nat.zero_add] at this
        go_wp2_with (at_builtin; refine wpList_append_list ev_elem _ rfl (.tmp 48) (.tmp 52) rfl wr.heap.size _ (feedT 0 r) rfl hown1 wr.heap.size _ (lc - (r + 1)) (feedT (r + 1) (j - (r + 1))) (by rw [feedT_length]; rfl) (by intro h; cases h) (hf2.g (Nat.le_refl _) hg1) (by rw [feedT_length, feedT_length]; omega) (by rw [feedT_length, feedT_length]; omega) hg1.size ?_; intro m2 w2 hown2 hkeep2 _; replace hkeep2 := hkeep2.g hg1; generalize hML : feedT 0 r ++ feedT (r + 1) (j - (r + 1)) = ML at *; replace hML := Lib.hid (show ML = tornT j r 0 from hML.symm); obtain ⟨mA, mc, rfl, hmc, hmm, hms⟩ := OwnL.sl Ev.cells_len hown2)
        clear hf2 hown1 hne
        have hMs : streamsB ML = false := by rw [hML.out]; exact torn_streams _ _ _ hr2
        have hMp : prefB ML (feedT 0 j) = false := by rw [hML.out]; exact torn_prefix _ _ _ hr2
        have hMl : ML.length ≤ 41 := by rw [hML.out]; exact Nat.le_trans (torn_length j r _ hr2) (by omega)
        have hMst : ∀ e ∈ ML, e.stream.size ≤ 9223372036854775807 := by rw [hML.out]; exact torn_small _ _ _
        replace hMs := Lib.hid hMs
        replace hMp := Lib.hid hMp
        have hon1 := one_single ML mA mc w2.heap.size w2 (Nat.le_refl _) hms (by omega) hmc hmm
        refine hon1.mono ?_
        clear hon1
        generalize (allPre [⟨mA, mc, ML⟩] (longOf [⟨mA, mc, ML⟩]).es && sortedB (longOf [⟨mA, mc, ML⟩]).es) = okm
        rintro e w4 ⟨v4, rfl, _, hg4⟩
        have hG4 : G wr w4 := (hkeep2.alloc _).trans hg4
        have hg24 : G w2 w4 := (G.new _ _).trans hg4
        go_wp2_with fail
        have hon2 := one_single (feedT 0 j) (some ⟨b, o, none⟩) lc wr.heap.size w4 hG4.size (hls.g (Nat.le_refl _) hG4) (by omega) (by rw [feedT_length]; omega) hlm
        rw [one_feed_ok _ _ _ (by omega), feedT_length] at hon2
        refine hon2.mono ?_
        clear hon2
        rintro e w5 ⟨v5, rfl, _, hg5⟩
        have hg45 : G w4 w5 := (G.new _ _).trans hg5
        have hst1 := streams_any ML mA mc w2.heap.size w5 (hg24.trans hg45).size (by omega) hMst (hms.g (Nat.le_refl _) (hg24.trans hg45))
        rw [hMs.out] at hst1
        have hG5 := hG4.trans hg45
        have hst2 : ∀ w', G w5 w' → Calls Try.prog 29 #[.slice (some ⟨b, o, none⟩) j lc] w' fun e w'' => e = .returned (.bool true) ∧ G w' w'' := fun w' h => by
          have := streams_any (feedT 0 j) (some ⟨b, o, none⟩) lc wr.heap.size w' (hG5.trans h).size (by omega) (feedT_small _ _) (hls.g (Nat.le_refl _) (hG5.trans h))
          rw [streams_whole, feedT_length] at this
          exact this
        have hpre : ∀ w', G w5 w' → Calls Try.prog 21 #[.slice mA ML.length mc, .slice (some ⟨b, o, none⟩) j lc] w' fun e w'' => e = .returned (.bool false) ∧ G w' w'' := fun w' h => by
          have := prefix_any ML (feedT 0 j) mA (some ⟨b, o, none⟩) mc lc w'.heap.size w' (Nat.le_refl _) (by omega) (by rw [feedT_length]; omega) hlm ((hms.g (Nat.le_refl _) ((hg24.trans hg45).trans h)).more ((hg24.trans hg45).trans h).size) ((hls.g (Nat.le_refl _) (hG5.trans h)).more (hG5.trans h).size)
          rw [hMp.out, feedT_length] at this
          exact this
        replace hst2 := Lib.hid hst2
        replace hpre := Lib.hid hpre
        have hfin := hg.trans hG5
        clear hMs hMp hMst hML hms hls hG4 hg24 hg45 hg4 hg5 hkeep2 hown2 hG5 hg
        cases okm
        · go_wp2_with fail
          refine (hst2.out _ (G.refl _)).mono ?_
          rintro e w6 ⟨rfl, hg6⟩
          go_wp2_with fail
          refine (hpre.out _ hg6).mono ?_
          rintro e w7 ⟨rfl, hg7⟩
          go_wp2_with fail
          refine (awake29_any _).mono ?_
          rintro e w8 ⟨rfl, hg8⟩
          go_wp2_with fail
          go_ret
          exact ⟨rfl, hfin.trans (hg6.trans (hg7.trans hg8))⟩
        · go_wp2_with fail
          refine hst1.mono ?_
          rintro e w6 ⟨rfl, hg6⟩
          go_wp2_with fail
          refine (hst2.out _ hg6).mono ?_
          rintro e w7 ⟨rfl, hg7⟩
          go_wp2_with fail
          refine (hpre.out _ (hg6.trans hg7)).mono ?_
          rintro e w8 ⟨rfl, hg8⟩
          go_wp2_with fail
          refine (awake29_any _).mono ?_
          rintro e w9 ⟨rfl, hg9⟩
          go_wp2_with fail
          go_ret
          exact ⟨rfl, hfin.trans (hg6.trans (hg7.trans (hg8.trans hg9)))⟩
      · have hne : ¬ lc = r := by omega
        obtain ⟨c0, c1, c2, c3, c4, c5, c6⟩ : _ ∧ _ ∧ _ ∧ _ ∧ _ ∧ _ ∧ _ := by
          obtain ⟨b', o', e, _, h⟩ := (hls.g (Nat.le_refl _) hg1).ev (k := r) (x := evT r) (by rw [feedT_get _ _ _ (by omega), Nat.zero_add])
          cases e
          exact h
        have hf2 : Sl Ev.cells 7 wr wr.heap.size (some ⟨b, o + r * 7, none⟩) (feedT r (j - r)) := by have := sl_from hls r; rwa [feedT_drop, Nat.zero_add] at this
        simp only [evT] at c0 c1 c2 c3 c4 c5 c6
        go_wp2_with (first | (at_builtin; refine wpList_append_list ev_elem _ rfl (.tmp 56) (.tmp 61) rfl wr.heap.size _ (feedT 0 r) rfl (hown1.g (G.new _ _)) (w1.heap.size + 1) (some ⟨w1.heap.size, 0, none⟩) 1 [evT r] rfl (by intro h; cases h) (Sl.of_blk Ev.cells_len _ (blk_new _ _ _) rfl (by omega)) (by rw [feedT_length]; simp; omega) (by rw [feedT_length]; simp; omega) (by have := hg1.size; simp; omega) ?_; intro m3 w3 hown3 hkeep3 _; replace hkeep3 := hkeep3.g (hg1.alloc _)) | (at_builtin; refine wpList_append_list ev_elem _ rfl (.tmp 63) (.tmp 66) rfl wr.heap.size _ (feedT 0 r ++ [evT r]) rfl hown3 wr.heap.size _ (lc - r) (feedT r (j - r)) (by rw [feedT_length]; rfl) (by intro h; cases h) (hf2.g (Nat.le_refl _) hkeep3) (by rw [List.length_append, feedT_length, feedT_length]; simp; omega) (by rw [List.length_append, feedT_length, feedT_length]; simp; omega) hkeep3.size ?_; intro m2 w2 hown2 hkeep2 _; replace hkeep2 := hkeep2.g hkeep3; generalize hML : feedT 0 r ++ [evT r] ++ feedT r (j - r) = ML at *; replace hML := Lib.hid (show ML = tornT j r 1 from hML.symm); obtain ⟨mA, mc, rfl, hmc, hmm, hms⟩ := OwnL.sl Ev.cells_len hown2))
        clear c0 c1 c2 c3 c4 c5 c6
        clear hf2 hown1 hne hown3
        have hMs : streamsB ML = false := by rw [hML.out]; exact torn_streams _ _ _ hr2
        have hMp : prefB ML (feedT 0 j) = false := by rw [hML.out]; exact torn_prefix _ _ _ hr2
        have hMl : ML.length ≤ 41 := by rw [hML.out]; exact Nat.le_trans (torn_length j r _ hr2) (by omega)
        have hMst : ∀ e ∈ ML, e.stream.size ≤ 9223372036854775807 := by rw [hML.out]; exact torn_small _ _ _
        replace hMs := Lib.hid hMs
        replace hMp := Lib.hid hMp
        have hon1 := one_single ML mA mc w2.heap.size w2 (Nat.le_refl _) hms (by omega) hmc hmm
        refine hon1.mono ?_
        clear hon1
        generalize (allPre [⟨mA, mc, ML⟩] (longOf [⟨mA, mc, ML⟩]).es && sortedB (longOf [⟨mA, mc, ML⟩]).es) = okm
        rintro e w4 ⟨v4, rfl, _, hg4⟩
        have hG4 : G wr w4 := (hkeep2.alloc _).trans hg4
        have hg24 : G w2 w4 := (G.new _ _).trans hg4
        go_wp2_with fail
        have hon2 := one_single (feedT 0 j) (some ⟨b, o, none⟩) lc wr.heap.size w4 hG4.size (hls.g (Nat.le_refl _) hG4) (by omega) (by rw [feedT_length]; omega) hlm
        rw [one_feed_ok _ _ _ (by omega), feedT_length] at hon2
        refine hon2.mono ?_
        clear hon2
        rintro e w5 ⟨v5, rfl, _, hg5⟩
        have hg45 : G w4 w5 := (G.new _ _).trans hg5
        have hst1 := streams_any ML mA mc w2.heap.size w5 (hg24.trans hg45).size (by omega) hMst (hms.g (Nat.le_refl _) (hg24.trans hg45))
        rw [hMs.out] at hst1
        have hG5 := hG4.trans hg45
        have hst2 : ∀ w', G w5 w' → Calls Try.prog 29 #[.slice (some ⟨b, o, none⟩) j lc] w' fun e w'' => e = .returned (.bool true) ∧ G w' w'' := fun w' h => by
          have := streams_any (feedT 0 j) (some ⟨b, o, none⟩) lc wr.heap.size w' (hG5.trans h).size (by omega) (feedT_small _ _) (hls.g (Nat.le_refl _) (hG5.trans h))
          rw [streams_whole, feedT_length] at this
          exact this
        have hpre : ∀ w', G w5 w' → Calls Try.prog 21 #[.slice mA ML.length mc, .slice (some ⟨b, o, none⟩) j lc] w' fun e w'' => e = .returned (.bool false) ∧ G w' w'' := fun w' h => by
          have := prefix_any ML (feedT 0 j) mA (some ⟨b, o, none⟩) mc lc w'.heap.size w' (Nat.le_refl _) (by omega) (by rw [feedT_length]; omega) hlm ((hms.g (Nat.le_refl _) ((hg24.trans hg45).trans h)).more ((hg24.trans hg45).trans h).size) ((hls.g (Nat.le_refl _) (hG5.trans h)).more (hG5.trans h).size)
          rw [hMp.out, feedT_length] at this
          exact this
        replace hst2 := Lib.hid hst2
        replace hpre := Lib.hid hpre
        have hfin := hg.trans hG5
        clear hMs hMp hMst hML hms hls hG4 hg24 hg45 hg4 hg5 hkeep2 hown2 hG5 hg
        cases okm
        · go_wp2_with fail
          refine (hst2.out _ (G.refl _)).mono ?_
          rintro e w6 ⟨rfl, hg6⟩
          go_wp2_with fail
          refine (hpre.out _ hg6).mono ?_
          rintro e w7 ⟨rfl, hg7⟩
          go_wp2_with fail
          refine (awake29_any _).mono ?_
          rintro e w8 ⟨rfl, hg8⟩
          go_wp2_with fail
          go_ret
          exact ⟨rfl, hfin.trans (hg6.trans (hg7.trans hg8))⟩
        · go_wp2_with fail
          refine hst1.mono ?_
          rintro e w6 ⟨rfl, hg6⟩
          go_wp2_with fail
          refine (hst2.out _ hg6).mono ?_
          rintro e w7 ⟨rfl, hg7⟩
          go_wp2_with fail
          refine (hpre.out _ (hg6.trans hg7)).mono ?_
          rintro e w8 ⟨rfl, hg8⟩
          go_wp2_with fail
          refine (awake29_any _).mono ?_
          rintro e w9 ⟨rfl, hg9⟩
          go_wp2_with fail
          go_ret
          exact ⟨rfl, hfin.trans (hg6.trans (hg7.trans (hg8.trans hg9)))⟩
      · obtain ⟨c0, c1, c2, c3, c4, c5, c6⟩ : _ ∧ _ ∧ _ ∧ _ ∧ _ ∧ _ ∧ _ := by
          obtain ⟨b', o', e, _, h⟩ := hls.evG (Nat.le_refl _) (k := r) (x := evT r) (by rw [feedT_get _ _ _ (by omega), Nat.zero_add])
          cases e
          exact h
        obtain ⟨d0, d1, d2, d3, d4, d5, d6⟩ : _ ∧ _ ∧ _ ∧ _ ∧ _ ∧ _ ∧ _ := by
          obtain ⟨b', o', e, _, h⟩ := hls.evG (Nat.le_refl _) (k := r + 1) (x := evT (r + 1)) (by rw [feedT_get _ _ _ (by omega), Nat.zero_add])
          cases e
          exact h
        simp only [evT] at c0 c1 c2 c3 c4 c5 c6 d0 d1 d2 d3 d4 d5 d6
        have hf2 : Sl Ev.cells 7 wr wr.heap.size (some ⟨b, o + (r + 2) * 7, none⟩) (feedT (r + 2) (j - (r + 2))) := by have := sl_from hls (r + 2); rwa [feedT_drop, Nat.zero_add] at this
        go_wp2_with fail
        have hwr : IntKind.i64.wrap (↑r + 1) = ↑r + 1 := IntWalk.i64_in _ (by omega)
        have n1 : (0 : Int) ≤ ↑r := by clear hwr; omega
        have n2 : (↑r : Int) < ↑j := by clear hwr; omega
        have n3 : (0 : Int) ≤ ↑r + 1 := by clear hwr; omega
        have n4 : (↑r : Int) + 1 < ↑j := by clear hwr; omega
        have n5 : ((r : Int) + 1).toNat = r + 1 := by clear hwr; omega
        go_region_held3 (fun w' => G wr w') (first | exact hg1.drew | exact G.alloc (by assumption) _ | exact hkeep3.g (hg1.alloc _).drew | fail) (first | (refine step_append_list ev_elem _ rfl (.tmp 70) (.tmp 80) rfl wr.heap.size _ (feedT 0 r) rfl (hown1.g (G.new w1 _).drew) (w1.heap.size + 1) (some ⟨w1.heap.size, 0, none⟩) 2 [evT (r + 1), evT r] rfl (by intro h; cases h) (Sl.of_blk Ev.cells_len _ (blk_new w1 _ _) rfl (by omega)) (by rw [feedT_length]; clear hwr; simp; omega) (by rw [feedT_length]; clear hwr; simp; omega) (by clear hwr; have := hg1.size; simp; omega) ?_; intro m3 w3 hown3 hkeep3 _))
        clear hwr n5
        have hg3 : G wr w3 := by assumption
        by_cases hne : lc = r + 2
        · subst hne
          have hnil : feedT (r + 2) (j - (r + 2)) = [] := by rw [show j - (r + 2) = 0 from by omega]; rfl
          have hf3 : Sl Ev.cells 7 w3 wr.heap.size (some ⟨b, o, none⟩) (feedT (r + 2) (j - (r + 2))) := by rw [hnil]; exact Sl.nil
          clear hnil hf2 c0 c1 c2 c3 c4 c5 c6 d0 d1 d2 d3 d4 d5 d6
          go_wp2_with (at_builtin; refine wpList_append_list ev_elem _ rfl (.tmp 82) (.tmp 86) rfl wr.heap.size _ (feedT 0 r ++ [evT (r + 1), evT r]) rfl hown3 wr.heap.size (some ⟨b, o, none⟩) _ (feedT (r + 2) (j - (r + 2))) (by rw [feedT_length]; rfl) (by intro h; cases h) hf3 (by rw [List.length_append, feedT_length, feedT_length]; simp; omega) (by rw [List.length_append, feedT_length, feedT_length]; simp; omega) hg3.size ?_; intro m2 w2 hown2 hkeep2 _; replace hkeep2 := hkeep2.g hg3; generalize hML : feedT 0 r ++ [evT (r + 1), evT r] ++ feedT (r + 2) (j - (r + 2)) = ML at *; replace hML := Lib.hid (show ML = tornT j r 2 from hML.symm); obtain ⟨mA, mc, rfl, hmc, hmm, hms⟩ := OwnL.sl Ev.cells_len hown2)
          clear hf3 hown3
          have hMs : streamsB ML = false := by rw [hML.out]; exact torn_streams _ _ _ hr2
          have hMp : prefB ML (feedT 0 j) = false := by rw [hML.out]; exact torn_prefix _ _ _ hr2
          have hMl : ML.length ≤ 41 := by rw [hML.out]; exact Nat.le_trans (torn_length j r _ hr2) (by omega)
          have hMst : ∀ e ∈ ML, e.stream.size ≤ 9223372036854775807 := by rw [hML.out]; exact torn_small _ _ _
          replace hMs := Lib.hid hMs
          replace hMp := Lib.hid hMp
          have hon1 := one_single ML mA mc w2.heap.size w2 (Nat.le_refl _) hms (by omega) hmc hmm
          refine hon1.mono ?_
          clear hon1
          generalize (allPre [⟨mA, mc, ML⟩] (longOf [⟨mA, mc, ML⟩]).es && sortedB (longOf [⟨mA, mc, ML⟩]).es) = okm
          rintro e w4 ⟨v4, rfl, _, hg4⟩
          have hG4 : G wr w4 := (hkeep2.alloc _).trans hg4
          have hg24 : G w2 w4 := (G.new _ _).trans hg4
          go_wp2_with fail
          have hon2 := one_single (feedT 0 j) (some ⟨b, o, none⟩) (r + 2) wr.heap.size w4 hG4.size (hls.g (Nat.le_refl _) hG4) (by omega) (by rw [feedT_length]; omega) hlm
          rw [one_feed_ok _ _ _ (by omega), feedT_length] at hon2
          refine hon2.mono ?_
          clear hon2
          rintro e w5 ⟨v5, rfl, _, hg5⟩
          have hg45 : G w4 w5 := (G.new _ _).trans hg5
          have hst1 := streams_any ML mA mc w2.heap.size w5 (hg24.trans hg45).size (by omega) hMst (hms.g (Nat.le_refl _) (hg24.trans hg45))
          rw [hMs.out] at hst1
          have hG5 := hG4.trans hg45
          have hst2 : ∀ w', G w5 w' → Calls Try.prog 29 #[.slice (some ⟨b, o, none⟩) j (r + 2)] w' fun e w'' => e = .returned (.bool true) ∧ G w' w'' := fun w' h => by
            have := streams_any (feedT 0 j) (some ⟨b, o, none⟩) (r + 2) wr.heap.size w' (hG5.trans h).size (by omega) (feedT_small _ _) (hls.g (Nat.le_refl _) (hG5.trans h))
            rw [streams_whole, feedT_length] at this
            exact this
          have hpre : ∀ w', G w5 w' → Calls Try.prog 21 #[.slice mA ML.length mc, .slice (some ⟨b, o, none⟩) j (r + 2)] w' fun e w'' => e = .returned (.bool false) ∧ G w' w'' := fun w' h => by
            have := prefix_any ML (feedT 0 j) mA (some ⟨b, o, none⟩) mc (r + 2) w'.heap.size w' (Nat.le_refl _) (by omega) (by rw [feedT_length]; omega) hlm ((hms.g (Nat.le_refl _) ((hg24.trans hg45).trans h)).more ((hg24.trans hg45).trans h).size) ((hls.g (Nat.le_refl _) (hG5.trans h)).more (hG5.trans h).size)
            rw [hMp.out, feedT_length] at this
            exact this
          replace hst2 := Lib.hid hst2
          replace hpre := Lib.hid hpre
          have hfin := hg.trans hG5
          clear hMs hMp hMst hML hms hls hG4 hg24 hg45 hg4 hg5 hkeep2 hown2 hG5 hg
          cases okm
          · go_wp2_with fail
            refine (hst2.out _ (G.refl _)).mono ?_
            rintro e w6 ⟨rfl, hg6⟩
            go_wp2_with fail
            refine (hpre.out _ hg6).mono ?_
            rintro e w7 ⟨rfl, hg7⟩
            go_wp2_with fail
            refine (awake29_any _).mono ?_
            rintro e w8 ⟨rfl, hg8⟩
            go_wp2_with fail
            go_ret
            exact ⟨rfl, hfin.trans (hg6.trans (hg7.trans hg8))⟩
          · go_wp2_with fail
            refine hst1.mono ?_
            rintro e w6 ⟨rfl, hg6⟩
            go_wp2_with fail
            refine (hst2.out _ hg6).mono ?_
            rintro e w7 ⟨rfl, hg7⟩
            go_wp2_with fail
            refine (hpre.out _ (hg6.trans hg7)).mono ?_
            rintro e w8 ⟨rfl, hg8⟩
            go_wp2_with fail
            refine (awake29_any _).mono ?_
            rintro e w9 ⟨rfl, hg9⟩
            go_wp2_with fail
            go_ret
            exact ⟨rfl, hfin.trans (hg6.trans (hg7.trans (hg8.trans hg9)))⟩
        · clear c0 c1 c2 c3 c4 c5 c6 d0 d1 d2 d3 d4 d5 d6
          go_wp2_with (at_builtin; refine wpList_append_list ev_elem _ rfl (.tmp 82) (.tmp 86) rfl wr.heap.size _ (feedT 0 r ++ [evT (r + 1), evT r]) rfl hown3 wr.heap.size _ (lc - (r + 2)) (feedT (r + 2) (j - (r + 2))) (by rw [feedT_length]; rfl) (by intro h; cases h) (hf2.g (Nat.le_refl _) hg3) (by rw [List.length_append, feedT_length, feedT_length]; simp; omega) (by rw [List.length_append, feedT_length, feedT_length]; simp; omega) hg3.size ?_; intro m2 w2 hown2 hkeep2 _; replace hkeep2 := hkeep2.g hg3; generalize hML : feedT 0 r ++ [evT (r + 1), evT r] ++ feedT (r + 2) (j - (r + 2)) = ML at *; replace hML := Lib.hid (show ML = tornT j r 2 from hML.symm); obtain ⟨mA, mc, rfl, hmc, hmm, hms⟩ := OwnL.sl Ev.cells_len hown2)
          clear hf2 hown3
          have hMs : streamsB ML = false := by rw [hML.out]; exact torn_streams _ _ _ hr2
          have hMp : prefB ML (feedT 0 j) = false := by rw [hML.out]; exact torn_prefix _ _ _ hr2
          have hMl : ML.length ≤ 41 := by rw [hML.out]; exact Nat.le_trans (torn_length j r _ hr2) (by omega)
          have hMst : ∀ e ∈ ML, e.stream.size ≤ 9223372036854775807 := by rw [hML.out]; exact torn_small _ _ _
          replace hMs := Lib.hid hMs
          replace hMp := Lib.hid hMp
          have hon1 := one_single ML mA mc w2.heap.size w2 (Nat.le_refl _) hms (by omega) hmc hmm
          refine hon1.mono ?_
          clear hon1
          generalize (allPre [⟨mA, mc, ML⟩] (longOf [⟨mA, mc, ML⟩]).es && sortedB (longOf [⟨mA, mc, ML⟩]).es) = okm
          rintro e w4 ⟨v4, rfl, _, hg4⟩
          have hG4 : G wr w4 := (hkeep2.alloc _).trans hg4
          have hg24 : G w2 w4 := (G.new _ _).trans hg4
          go_wp2_with fail
          have hon2 := one_single (feedT 0 j) (some ⟨b, o, none⟩) lc wr.heap.size w4 hG4.size (hls.g (Nat.le_refl _) hG4) (by omega) (by rw [feedT_length]; omega) hlm
          rw [one_feed_ok _ _ _ (by omega), feedT_length] at hon2
          refine hon2.mono ?_
          clear hon2
          rintro e w5 ⟨v5, rfl, _, hg5⟩
          have hg45 : G w4 w5 := (G.new _ _).trans hg5
          have hst1 := streams_any ML mA mc w2.heap.size w5 (hg24.trans hg45).size (by omega) hMst (hms.g (Nat.le_refl _) (hg24.trans hg45))
          rw [hMs.out] at hst1
          have hG5 := hG4.trans hg45
          have hst2 : ∀ w', G w5 w' → Calls Try.prog 29 #[.slice (some ⟨b, o, none⟩) j lc] w' fun e w'' => e = .returned (.bool true) ∧ G w' w'' := fun w' h => by
            have := streams_any (feedT 0 j) (some ⟨b, o, none⟩) lc wr.heap.size w' (hG5.trans h).size (by omega) (feedT_small _ _) (hls.g (Nat.le_refl _) (hG5.trans h))
            rw [streams_whole, feedT_length] at this
            exact this
          have hpre : ∀ w', G w5 w' → Calls Try.prog 21 #[.slice mA ML.length mc, .slice (some ⟨b, o, none⟩) j lc] w' fun e w'' => e = .returned (.bool false) ∧ G w' w'' := fun w' h => by
            have := prefix_any ML (feedT 0 j) mA (some ⟨b, o, none⟩) mc lc w'.heap.size w' (Nat.le_refl _) (by omega) (by rw [feedT_length]; omega) hlm ((hms.g (Nat.le_refl _) ((hg24.trans hg45).trans h)).more ((hg24.trans hg45).trans h).size) ((hls.g (Nat.le_refl _) (hG5.trans h)).more (hG5.trans h).size)
            rw [hMp.out, feedT_length] at this
            exact this
          replace hst2 := Lib.hid hst2
          replace hpre := Lib.hid hpre
          have hfin := hg.trans hG5
          clear hMs hMp hMst hML hms hls hG4 hg24 hg45 hg4 hg5 hkeep2 hown2 hG5 hg
          cases okm
          · go_wp2_with fail
            refine (hst2.out _ (G.refl _)).mono ?_
            rintro e w6 ⟨rfl, hg6⟩
            go_wp2_with fail
            refine (hpre.out _ hg6).mono ?_
            rintro e w7 ⟨rfl, hg7⟩
            go_wp2_with fail
            refine (awake29_any _).mono ?_
            rintro e w8 ⟨rfl, hg8⟩
            go_wp2_with fail
            go_ret
            exact ⟨rfl, hfin.trans (hg6.trans (hg7.trans hg8))⟩
          · go_wp2_with fail
            refine hst1.mono ?_
            rintro e w6 ⟨rfl, hg6⟩
            go_wp2_with fail
            refine (hst2.out _ hg6).mono ?_
            rintro e w7 ⟨rfl, hg7⟩
            go_wp2_with fail
            refine (hpre.out _ (hg6.trans hg7)).mono ?_
            rintro e w8 ⟨rfl, hg8⟩
            go_wp2_with fail
            refine (awake29_any _).mono ?_
            rintro e w9 ⟨rfl, hg9⟩
            go_wp2_with fail
            go_ret
            exact ⟨rfl, hfin.trans (hg6.trans (hg7.trans (hg8.trans hg9)))⟩

/-! The row's step, by the guide's shell. -/
open Go.ChangeShapes Go.WideShapes Go.ChangeAt
theorem own : ownKnob Try.prog.godebug = none := by kernel_rfl
theorem laidOut : laidOutB Try.prog = true := by kernel_rfl
set_option maxRecDepth 100000 in
theorem lifted (os : Os) (started : os.Started) (H : Type) (enc : TypeId × Value → H) :
    ReturnsInHanded {} Try.checked os 8 .any (Rows.watchTornSpec.pre6 enc Try.prog Try.f8 Rows.watchTornRow.domain false) (Rows.watchTornSpec.post enc Try.prog Try.f8 false true false false) := by
  refine returnsInHanded_of_change (C := Try.checked) own started (by kernel_rfl) Try.func8
    (ChangeSpec.witness6 (enc := enc) (C := Try.checked) false ⟨#[], #[.int .i64 0, .int .i64 0, .int .i64 0], []⟩ 8 (by kernel_rfl) (by kernel_rfl) (by kernel_rfl) (by kernel_rfl)) ?_
  intro W base args ds gs before hval0 hW hcnd _
  have hval : ∀ (j : Nat) t v, Try.f8.params[j]? = some t → args[j]? = some v → Value.okWide Try.prog W .any base t v := hval0
  have hW' := hW
  obtain ⟨p, q, hA0, hV, rfl, hfz, hnd⟩ := hW
  have hA : DataW.TrodAll enc Try.prog W 0 (fun _ => true) true Try.f8.params.toList args.toList ds p := hA0
  rw [Try.params8] at hA hval
  obtain ⟨v0, vs0, d0, ds0, p0, q0, hargs, rfl, rfl, h0, r0⟩ := trodAll_cons hA
  obtain ⟨v1, vs1, d1, ds1, p1, q1, rfl, rfl, rfl, h1, r1⟩ := trodAll_cons r0
  obtain ⟨v2, vs2, d2, ds2, p2, q2, rfl, rfl, rfl, h2, r2⟩ := trodAll_cons r1
  obtain ⟨rfl, rfl, rfl⟩ := trodAll_nil r2
  obtain rfl : args = #[v0, v1, v2] := by cases args; simp_all
  obtain ⟨rfl, rfl⟩ := trodVars_none hV
  have lt0 : ∀ x ∈ p0, x.block < W.heap.size := by obtain ⟨m, hm⟩ := h0; exact DataW.trod_lt m _ _ _ hm
  have lt1 : ∀ x ∈ p1, x.block < W.heap.size := by obtain ⟨m, hm⟩ := h1; exact DataW.trod_lt m _ _ _ hm
  have lt2 : ∀ x ∈ p2, x.block < W.heap.size := by obtain ⟨m, hm⟩ := h2; exact DataW.trod_lt m _ _ _ hm
  obtain ⟨n, rfl, hn⟩ := in_int (hval 0 _ _ rfl rfl) h0
  obtain ⟨k, rfl, hk⟩ := in_int (hval 1 _ _ rfl rfl) h1
  obtain ⟨how, rfl, hh⟩ := in_int (hval 2 _ _ rfl rfl) h2
  clear hA0 hval0
  refine (walk n k how W hn hk hh).mono fun e W' ⟨he, hg⟩ => ?_
  have bel : Below W.heap.size W W' := hg
  subst he
  exact ⟨_, rfl, _, _, _, [], _, [], hW', trodAll_mk1 (shut_bool Try.underlying4 _), (trodAll_cons_mk (Below.trod laidOut (by kernel_rfl) (of_decide_eq_true (by kernel_rfl)) h0 bel lt0) (trodAll_cons_mk (Below.trod laidOut (by kernel_rfl) (of_decide_eq_true (by kernel_rfl)) h1 bel lt1) (trodAll_cons_mk (Below.trod laidOut (by kernel_rfl) (of_decide_eq_true (by kernel_rfl)) h2 bel lt2) (trodAll_mk0)))), rfl, bel.frame _, fun h => by cases h⟩

theorem over : Rows.watchTornRow.holds Try.pinned (OpenSpec.ofChange Rows.watchTornSpec) :=
  OpenClaim.holds_of_wide 8 Try.f8 rfl rfl rfl rfl rfl rfl rfl ⟨rfl, rfl, rfl, rfl, rfl⟩ rfl rfl rfl rfl rfl (by kernel_rfl) Try.func8 (by kernel_rfl)
    (of_decide_eq_true (by kernel_rfl)) (by unfold Func.isWrapper; first | (rw [if_pos (by decide +kernel)]; kernel_rfl) | (rw [if_neg (by decide +kernel)]; exact ⟨rfl, rfl⟩))
    (fun os started H enc _ => lifted os started H enc)

theorem proved : Rows.WatchTornSaid := over
#print axioms proved
end Go.Proofs.Ytnenabacbhepdaa.watchTorn
